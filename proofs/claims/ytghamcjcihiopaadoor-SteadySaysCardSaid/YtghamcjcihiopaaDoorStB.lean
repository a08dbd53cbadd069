/-
  Sets as numbers, and the rest of the ring that comes to order: who may move, how many, and a closed fact.
  Conditions: the states are read as a list of integers; kinds fits an int.
-/
import Derived.Test.YtghamcjcihiopaaDoorStA
namespace Go.Proofs.YtghamcjcihiopaaDoor
open Go Go.RowKit

/-- The set of the numbers below n that f lets by. -/
def setB (f : Nat → Bool) : Nat → Nat
  | 0 => 0
  | n + 1 => setB f n + if f n then 2 ^ n else 0

theorem setB_lt (f : Nat → Bool) : ∀ n, setB f n < 2 ^ n
  | 0 => by simp [setB]
  | n + 1 => by
    have := setB_lt f n
    have h2 : 2 ^ (n + 1) = 2 ^ n + 2 ^ n := by rw [Nat.pow_succ]; omega
    unfold setB; split <;> omega

theorem or_pow (x k : Nat) (h : x < 2 ^ k) : x ||| 2 ^ k = x + 2 ^ k := by
  have := Nat.two_pow_add_eq_or_of_lt h 1
  rw [Nat.mul_one] at this
  rw [Nat.or_comm, ← this, Nat.add_comm]

theorem or_bits5 : ∀ k : Nat, k < 5 → ∀ x : Nat, x < 2 ^ k → bits BinOp.or IntKind.i64 (x : Int) (wrap64 (2 ^ k)) = ((x + 2 ^ k : Nat) : Int) := by
  intro k hk
  rcases (by omega : k = 0 ∨ k = 1 ∨ k = 2 ∨ k = 3 ∨ k = 4) with rfl | rfl | rfl | rfl | rfl <;> decide +kernel

set_option maxHeartbeats 1000000 in
theorem may_bad (S : Nat → Prop) (v : Value) (l : List Int) (kinds : Int) (w : World) (hr : Rd S w v l) (hlb : l.length ≤ 9223372036854775807) (hk0 : -9223372036854775808 ≤ kinds) (hk1 : kinds ≤ 9223372036854775807) (h0 : stErr l kinds ≠ 0) :
    Calls Tryd.prog 10 #[v, .int .i64 kinds] w fun e w' => e = .returned (.tuple #[.int .i64 0, errV (stErr l kinds)]) ∧ w = w' := by
  have hchk := Lib.hid (check_any S v l kinds w hr hlb hk0 hk1)
  have hE : Hid (errV (stErr l kinds) = .iface 41 (.int .i64 (stErr l kinds))) := Lib.hid (by unfold errV; rw [if_neg h0])
  obtain ⟨ec, hec⟩ : ∃ ec, Hid (stErr l kinds = ec) := ⟨_, Lib.hid rfl⟩
  rw [hec.out] at hchk hE ⊢
  rw [hE.out] at hchk ⊢
  clear h0 hr
  go_enter Tryd.func10, Tryd.ntmps10
  go_wp2_with (go_at_call 7; refine hchk.out.mono ?_; rintro e w' ⟨rfl, rfl⟩)
  go_ret2
  exact ⟨rfl, rfl⟩

set_option maxHeartbeats 1000000 in
theorem may_good (S : Nat → Prop) (v : Value) (l : List Int) (kinds : Int) (w : World) (hr : Rd S w v l) (h0 : stErr l kinds = 0) :
    Calls Tryd.prog 10 #[v, .int .i64 kinds] w fun e w' => e = .returned (.tuple #[.int .i64 (setB (mayB l) l.length : Nat), .nilIface]) ∧ Chg NoF w w' := by
  obtain ⟨hg1, hg2, hg3, hg4, hg5⟩ := stErr_good h0
  have hchk := Lib.hid (check_any S v l kinds w hr (by omega) (by omega) (by omega))
  have hE : errV (stErr l kinds) = .nilIface := by unfold errV; rw [if_pos h0]
  rw [hE] at hchk
  obtain ⟨b, off, c, rfl, hS, hc⟩ := hr.form (by omega)
  have hmay := Lib.hid (fun w1 (h1 : Rd S w1 (.slice (some ⟨b, off, none⟩) l.length c) l) k (hk : k < l.length) => may_any S _ k l w1 hk hg2 h1)
  have HR := Lib.hid hr
  clear hc hr h0 hE hg5
  obtain ⟨n, hN⟩ : ∃ n, Hid (l.length = n) := ⟨_, Lib.hid rfl⟩
  rw [hN.out] at hchk hg1 hg2 hg3 HR hmay ⊢
  obtain ⟨f, hf⟩ : ∃ f, Hid (mayB l = f) := ⟨_, Lib.hid rfl⟩
  rw [hf.out] at hmay ⊢
  go_enter Tryd.func10, Tryd.ntmps10
  go_wp2_with (go_at_call 7; refine hchk.out.mono ?_; rintro e w' ⟨rfl, rfl⟩)
  go_loopw [7, 17] (fun s i wr => ∃ k : Nat, k ≤ n ∧ i = .int .i64 k ∧ s = .int .i64 (setB f k : Nat) ∧ Chg NoF w wr) (fun _ i _ => n - (intOf i).toNat)
  case atStart => exact ⟨0, Nat.zero_le _, rfl, rfl, Chg.refl _ _⟩
  case round =>
    obtain ⟨k, hkn, rfl, rfl, hcw⟩ := hrel
    have hsl := setB_lt f k
    obtain ⟨x, hX⟩ : ∃ x, Hid (setB f k = x) := ⟨_, Lib.hid rfl⟩
    rw [hX.out] at hsl ⊢
    by_cases hlt : k < n
    · have hcall := Lib.hid (hmay.out wr (HR.out.keep hcw (fun _ _ => id)) k hlt)
      have hk5 : k < 5 := by omega
      cases hfk : f k with
      | false =>
        rw [hfk] at hcall
        go_wp2_with (go_at_call 22; refine hcall.out.mono ?_; rintro e w' ⟨rfl, k', rfl⟩)
        go_roundw
        case rel => exact ⟨k + 1, by omega, by go_num, by rw [setB, hfk, hX.out]; rfl, hcw.drewN _⟩
        case measure => simp [intOf]; omega
      | true =>
        rw [hfk] at hcall
        go_wp2_with (go_at_call 22; refine hcall.out.mono ?_; rintro e w' ⟨rfl, k', rfl⟩)
        go_roundw
        case rel => exact ⟨k + 1, by omega, by go_num, by rw [setB, hfk, hX.out, or_bits5 k hk5 x hsl]; rfl, hcw.drewN _⟩
        case measure => simp [intOf]; omega
    · obtain rfl : k = n := by omega
      go_wp2
      go_ret2
      exact ⟨by rw [hX.out]; rfl, hcw⟩

/-- How many a set has; the first number is fuel. -/
def popF : Nat → Nat → Nat
  | 0, _ => 0
  | f + 1, x => if x = 0 then 0 else x % 2 + popF f (x / 2)

set_option maxHeartbeats 1000000 in
theorem many_any (x : Nat) (w : World) (hx : x < 64) :
    Calls Tryd.prog 18 #[.int .i64 x] w fun e w' => e = .returned (.int .i64 (popF 6 x : Nat)) ∧ w = w' := by
  obtain ⟨r, hR⟩ : ∃ r, Hid (popF 6 x = r) := ⟨_, Lib.hid rfl⟩
  rw [hR.out]
  go_enter Tryd.func18, Tryd.ntmps18
  go_wp2
  go_loop [0, 3] (fun s n => ∃ f y acc : Nat, f ≤ 6 ∧ y < 2 ^ f ∧ y < 64 ∧ acc ≤ 6 - f ∧ s = .int .i64 y ∧ n = .int .i64 acc ∧ Hid (acc + popF f y = r)) (fun s _ => (intOf s).toNat)
  case atStart => exact ⟨6, x, 0, by omega, by omega, hx, by omega, rfl, rfl, Lib.hid (by rw [hR.out]; omega)⟩
  case round =>
    obtain ⟨f, y, acc, hf, hy, hy64, hacc, rfl, rfl, HA⟩ := hrel
    by_cases h0 : y = 0
    · subst h0
      have hA2 : acc = r := by have := HA.out; cases f <;> simpa [popF] using this
      subst hA2
      go_wp2
      go_ret
      exact ⟨rfl, rfl⟩
    · have hf0 : f ≠ 0 := by intro e; subst e; simp at hy; omega
      obtain ⟨f', rfl⟩ : ∃ f', f = f' + 1 := ⟨f - 1, by omega⟩
      have hy2 : y / 2 < 2 ^ f' := by rw [Nat.pow_succ] at hy; omega
      have HA2 : Hid (acc + y % 2 + popF f' (y / 2) = r) := Lib.hid (by have := HA.out; rw [popF, if_neg h0] at this; omega)
      have hpos : (0 : Int) < y := by omega
      have HH := Lib.hid hy2
      clear hy hy2
      go_wp2
      go_round
      case rel => exact ⟨f', y / 2, acc + y % 2, by omega, HH.out, by omega, by omega, by go_num, by go_num, HA2⟩
      case measure => simp [intOf]; omega

set_option maxHeartbeats 2000000 in
theorem steadyFact_any (w : World) : Calls Tryd.prog 15 #[] w fun e w' => e = .returned (.bool true) ∧ Chg NoF w w' := by
  go_enter Tryd.func15, Tryd.ntmps15
  go_wp2_with fail
  have e1 : setB (mayB [2, 2, 2]) ([2, 2, 2] : List Int).length = 1 := by decide
  have m1 := Lib.hid (may_good (fun k => k = w.heap.size) _ [2, 2, 2] 3 _ (Rd.built w 3 [2, 2, 2] 3 _ rfl) (by decide))
  rw [e1] at m1
  refine m1.out.mono ?_
  clear m1 e1
  rintro e w1 ⟨rfl, hc1⟩
  have hc2 : Chg NoF w w1 := ((Chg.refl _ w).alloc _).trans hc1
  clear hc1
  go_wp2_with fail
  have e2 : mvErr [2, 2, 2] 3 0 = 0 := by decide
  have e3 : moved [2, 2, 2] 3 (0 : Int).toNat = [0, 2, 2] := by decide
  refine (move_any (fun k => k = w1.heap.size) _ [2, 2, 2] 3 0 _ (Rd.built w1 3 [2, 2, 2] 3 _ rfl) (by decide) (by omega) (by omega)).mono ?_
  rintro e w2 ⟨v, rfl, hc3, hr, _⟩
  have hr2 := hr e2
  rw [e2, e3] at *
  have HC : Hid (Chg NoF w w2) := Lib.hid (hc2.trans (((Chg.refl _ w1).alloc _).trans hc3))
  have hE : errV 0 = .nilIface := rfl
  clear hr e2 e3 hc3 hc2
  go_wp2_with fail
  refine (ints_any (fun _ => True) _ _ [0, 2, 2] [0, 2, 2] _ ((hr2.mono (fun _ _ _ => trivial)).keep ((Chg.refl NoF w2).alloc _) (fun _ _ => id)) (Rd.built w2 3 [0, 2, 2] 3 _ trivial) (by decide) (by decide)).mono ?_
  rintro e w3 ⟨rfl, k, rfl⟩
  go_wp2
  go_ret
  exact ⟨rfl, (HC.out.trans ((Chg.refl _ w2).alloc _)).drewN _⟩

end Go.Proofs.YtghamcjcihiopaaDoor
