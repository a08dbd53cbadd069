/-
  The ring that comes to order, as TopWire asks it: who may move.
  Conditions: the states are read as a list of integers; kinds fits an int.
-/
import Derived.Test.YtgpjjbfmckcjgaaSame
import Derived.WalkSpells
import Derived.WalkLawsBesides
import Derived.BigQuiet
import Derived.Deep.QuietTactic
namespace Go.Proofs.Ytgpjjbfmckcjgaa
open Go Go.RowKit

/-- A Bool function that is not reducible: may node i move? -/
def mayB (l : List Int) (i : Nat) : Bool := if i = 0 then l.getD 0 0 == l.getD (l.length - 1) 0 else l.getD i 0 != l.getD (i - 1) 0

set_option maxHeartbeats 400000 in
theorem may_any (S : Nat → Prop) (v : Value) (i : Nat) (l : List Int) (w : World) (hi : i < l.length) (hn : l.length ≤ 5) (hr : Rd S w v l) :
    Calls Try.prog 29 #[v, .int .i64 i] w fun e w' => e = .returned (.bool (mayB l i)) ∧ ∃ k, w' = w.drewN k := by
  obtain ⟨b, off, c, rfl, _, hc⟩ := hr.form (by omega)
  by_cases h : i = 0
  · subst h
    obtain ⟨n, hN⟩ : ∃ n, Hid (l.length = n) := ⟨_, Lib.hid rfl⟩
    rw [hN.out] at hi hn hc ⊢
    have h1 := hc 0 hi
    have h2 := hc (n - 1) (by omega)
    obtain ⟨x, hX⟩ : ∃ x, Hid (l.getD 0 0 = x) := ⟨_, Lib.hid rfl⟩
    obtain ⟨y, hY⟩ : ∃ y, Hid (l.getD (n - 1) 0 = y) := ⟨_, Lib.hid rfl⟩
    rw [hX.out, Nat.add_zero] at h1
    rw [hY.out] at h2
    have h5 : ((n : Int) - 1).toNat = n - 1 := by omega
    have h6 : (1 : Int) ≤ n := by omega
    clear hc
    go_enter Try.func29, Try.ntmps29
    go_wp2
    go_quiet (fail)
    go_wp2
    go_ret
    exact ⟨ret_bool (by simp only [mayB, if_true, hN.out, hX.out, hY.out]), _, rfl⟩
  · obtain ⟨n, hN⟩ : ∃ n, Hid (l.length = n) := ⟨_, Lib.hid rfl⟩
    rw [hN.out] at hi hn hc ⊢
    have h1 := hc i hi
    have h2 := hc (i - 1) (by omega)
    obtain ⟨x, hX⟩ : ∃ x, Hid (l.getD i 0 = x) := ⟨_, Lib.hid rfl⟩
    obtain ⟨y, hY⟩ : ∃ y, Hid (l.getD (i - 1) 0 = y) := ⟨_, Lib.hid rfl⟩
    rw [hX.out] at h1
    rw [hY.out] at h2
    have h4 : ((i : Int) == 0) = false := by simp [h]
    have h5 : ((i : Int) - 1).toNat = i - 1 := by omega
    have h6 : (1 : Int) ≤ i := by omega
    have h7 : (i : Int) < n := by omega
    have H := Lib.hid h
    clear hc h
    go_enter Try.func29, Try.ntmps29
    go_wp2
    go_quiet (fail)
    go_wp2
    go_ret
    exact ⟨ret_bool (by simp only [mayB, if_neg H.out, hX.out, hY.out]), _, rfl⟩

/-- What is wrong with a ring's states. -/
def stErr (l : List Int) (kinds : Int) : Int :=
  if l.length < 2 then 5 else if 5 < l.length then 4 else if inB kinds l.length 8 = false then 1 else if l.any (fun s => inB s 0 (kinds - 1) == false) then 1 else 0

theorem any_of_at {l : List Int} {f : Int → Bool} {k : Nat} (hk : k < l.length) (h : f (l.getD k 0) = true) : l.any f = true :=
  List.any_eq_true.2 ⟨l[k], List.getElem_mem hk, by simpa [List.getD, hk] using h⟩
theorem any_none {l : List Int} {f : Int → Bool} (h : ∀ k, k < l.length → f (l.getD k 0) = false) : l.any f = false := by
  rw [Bool.eq_false_iff]; intro ht
  obtain ⟨x, hx, hf⟩ := List.any_eq_true.1 ht
  obtain ⟨k, hk, rfl⟩ := List.getElem_of_mem hx
  have := h k hk
  simp [List.getD, hk, hf] at this

set_option maxHeartbeats 1000000 in
theorem check_any (S : Nat → Prop) (v : Value) (l : List Int) (kinds : Int) (w : World) (hr : Rd S w v l) (hlb : l.length ≤ 9223372036854775807) (hk0 : -9223372036854775808 ≤ kinds) (hk1 : kinds ≤ 9223372036854775807) :
    Calls Try.prog 28 #[v, .int .i64 kinds] w fun e w' => e = .returned (errV (stErr l kinds)) ∧ w = w' := by
  by_cases h2 : l.length < 2
  · obtain ⟨a, c, rfl⟩ := hr.val
    have hR : Hid (stErr l kinds = 5) := Lib.hid (by simp [stErr, h2])
    clear hr
    go_enter Try.func28, Try.ntmps28
    go_wp2
    go_ret
    exact ⟨by rw [hR.out]; rfl, rfl⟩
  by_cases h5 : 5 < l.length
  · obtain ⟨a, c, rfl⟩ := hr.val
    have hR : Hid (stErr l kinds = 4) := Lib.hid (by simp [stErr, h2, h5])
    clear hr
    go_enter Try.func28, Try.ntmps28
    go_wp2
    go_ret
    exact ⟨by rw [hR.out]; rfl, rfl⟩
  obtain ⟨b, off, c, rfl, _, hc⟩ := hr.form (by omega)
  clear hr
  obtain ⟨n, hN⟩ : ∃ n, Hid (l.length = n) := ⟨_, Lib.hid rfl⟩
  have HC : Hid (∀ j, j < n → w.cell? ⟨b, off + j, none⟩ = some (.int .i64 (l.getD j 0))) := Lib.hid (by rw [← hN.out]; exact hc)
  clear hc
  rw [hN.out] at h2 h5 hlb ⊢
  cases hk : inB kinds n 8 with
  | false =>
    have hR : Hid (stErr l kinds = 1) := Lib.hid (by simp [stErr, hN.out, h2, h5, hk])
    go_enter Try.func28, Try.ntmps28
    go_wp2_with (go_at_call 23; refine (within_any _ _ _ _).mono ?_; rintro e w' ⟨rfl, rfl⟩)
    go_ret
    exact ⟨by rw [hR.out]; rfl, rfl⟩
  | true =>
    have hkb : (n : Int) ≤ kinds ∧ kinds ≤ 8 := by simpa [inB] using hk
    obtain ⟨hkb1, hkb2⟩ := hkb
    go_enter Try.func28, Try.ntmps28
    go_wp2_with (go_at_call 23; refine (within_any _ _ _ _).mono ?_; rintro e w' ⟨rfl, rfl⟩)
    go_loop [6, 23] (fun _ i => ∃ k : Nat, k ≤ n ∧ i = .int .i64 k ∧ Hid (∀ j, j < k → inB (l.getD j 0) 0 (kinds - 1) = true)) (fun _ i => n - (intOf i).toNat)
    case atStart => exact ⟨0, Nat.zero_le _, rfl, Lib.hid fun j hj => by omega⟩
    case round =>
      obtain ⟨k, hkn, rfl, HB⟩ := hrel
      by_cases hlt : k < n
      · obtain ⟨x, hX⟩ : ∃ x, Hid (l.getD k 0 = x) := ⟨_, Lib.hid rfl⟩
        have hcell : w.cell? ⟨b, off + k, none⟩ = some (.int .i64 x) := by rw [HC.out k hlt, hX.out]
        cases hin : inB x 0 (kinds - 1) with
        | false =>
          have hR : Hid (stErr l kinds = 1) := Lib.hid (by
            have : l.any (fun s => inB s 0 (kinds - 1) == false) = true := any_of_at (k := k) (by rw [hN.out]; exact hlt) (by rw [hX.out, hin]; rfl)
            unfold stErr; rw [hN.out, if_neg h2, if_neg h5, hk, if_neg (by simp), this]; rfl)
          go_wp2_with (go_at_call 23; refine (within_any _ _ _ _).mono ?_; rintro e w' ⟨rfl, rfl⟩)
          go_ret
          exact ⟨by rw [hR.out]; rfl, rfl⟩
        | true =>
          have HB' : Hid (∀ j, j < k + 1 → inB (l.getD j 0) 0 (kinds - 1) = true) := Lib.hid fun j hj => by
            by_cases e : j = k
            · subst e; rw [hX.out]; exact hin
            · exact HB.out j (by omega)
          go_wp2_with (go_at_call 23; refine (within_any _ _ _ _).mono ?_; rintro e w' ⟨rfl, rfl⟩)
          go_round
          case rel => exact ⟨k + 1, by omega, by go_num, HB'⟩
          case measure => simp [intOf]; omega
      · have hR : Hid (stErr l kinds = 0) := Lib.hid (by
          have : l.any (fun s => inB s 0 (kinds - 1) == false) = false := any_none fun j hj => by
            rw [hN.out] at hj; rw [HB.out j (by omega)]; rfl
          unfold stErr; rw [hN.out, if_neg h2, if_neg h5, hk, if_neg (by simp), this]; rfl)
        go_wp2
        go_ret
        exact ⟨by rw [hR.out]; rfl, rfl⟩

theorem stErr_good {l : List Int} {kinds : Int} (h : stErr l kinds = 0) : 2 ≤ l.length ∧ l.length ≤ 5 ∧ (l.length : Int) ≤ kinds ∧ kinds ≤ 8 ∧ ∀ j, j < l.length → 0 ≤ l.getD j 0 ∧ l.getD j 0 < kinds := by
  unfold stErr at h
  split at h
  · omega
  split at h
  · omega
  split at h
  · omega
  split at h
  · omega
  rename_i h1 h2 h3 h4
  simp [inB] at h3
  refine ⟨by omega, by omega, by omega, by omega, fun j hj => ?_⟩
  simp [inB] at h4
  have := h4 l[j] (List.getElem_mem hj)
  simp [List.getD, hj]
  omega

/-- The set of the numbers below n that f lets by. -/
def setB (f : Nat → Bool) : Nat → Nat
  | 0 => 0
  | n + 1 => setB f n + if f n then 2 ^ n else 0

theorem setB_lt (f : Nat → Bool) : ∀ n, setB f n < 2 ^ n
  | 0 => by simp [setB]
  | n + 1 => by
    have := setB_lt f n
    have h2 : 2 ^ (n + 1) = 2 ^ n + 2 ^ n := by rw [Nat.pow_succ]; omega
    unfold setB; split <;> omega

theorem or_pow (x k : Nat) (h : x < 2 ^ k) : x ||| 2 ^ k = x + 2 ^ k := by
  have := Nat.two_pow_add_eq_or_of_lt h 1
  rw [Nat.mul_one] at this
  rw [Nat.or_comm, ← this, Nat.add_comm]

theorem or_bits5 : ∀ k : Nat, k < 5 → ∀ x : Nat, x < 2 ^ k → bits BinOp.or IntKind.i64 (x : Int) (wrap64 (2 ^ k)) = ((x + 2 ^ k : Nat) : Int) := by
  intro k hk
  rcases (by omega : k = 0 ∨ k = 1 ∨ k = 2 ∨ k = 3 ∨ k = 4) with rfl | rfl | rfl | rfl | rfl <;> decide +kernel

set_option maxHeartbeats 1000000 in
theorem may_good (S : Nat → Prop) (v : Value) (l : List Int) (kinds : Int) (w : World) (hr : Rd S w v l) (h0 : stErr l kinds = 0) :
    Calls Try.prog 16 #[v, .int .i64 kinds] w fun e w' => e = .returned (.tuple #[.int .i64 (setB (mayB l) l.length : Nat), .nilIface]) ∧ Chg NoF w w' := by
  obtain ⟨hg1, hg2, hg3, hg4, hg5⟩ := stErr_good h0
  have hchk := Lib.hid (check_any S v l kinds w hr (by omega) (by omega) (by omega))
  have hE : errV (stErr l kinds) = .nilIface := by unfold errV; rw [if_pos h0]
  rw [hE] at hchk
  obtain ⟨b, off, c, rfl, hS, hc⟩ := hr.form (by omega)
  have hmay := Lib.hid (fun w1 (h1 : Rd S w1 (.slice (some ⟨b, off, none⟩) l.length c) l) k (hk : k < l.length) => may_any S _ k l w1 hk hg2 h1)
  have HR := Lib.hid hr
  clear hc hr h0 hE hg5
  obtain ⟨n, hN⟩ : ∃ n, Hid (l.length = n) := ⟨_, Lib.hid rfl⟩
  rw [hN.out] at hchk hg1 hg2 hg3 HR hmay ⊢
  obtain ⟨f, hf⟩ : ∃ f, Hid (mayB l = f) := ⟨_, Lib.hid rfl⟩
  rw [hf.out] at hmay ⊢
  go_enter Try.func16, Try.ntmps16
  go_wp2_with (go_at_call 28; refine hchk.out.mono ?_; rintro e w' ⟨rfl, rfl⟩)
  go_loopw [7, 17] (fun s i wr => ∃ k : Nat, k ≤ n ∧ i = .int .i64 k ∧ s = .int .i64 (setB f k : Nat) ∧ Chg NoF w wr) (fun _ i _ => n - (intOf i).toNat)
  case atStart => exact ⟨0, Nat.zero_le _, rfl, rfl, Chg.refl _ _⟩
  case round =>
    obtain ⟨k, hkn, rfl, rfl, hcw⟩ := hrel
    have hsl := setB_lt f k
    obtain ⟨x, hX⟩ : ∃ x, Hid (setB f k = x) := ⟨_, Lib.hid rfl⟩
    rw [hX.out] at hsl ⊢
    by_cases hlt : k < n
    · have hcall := Lib.hid (hmay.out wr (HR.out.keep hcw (fun _ _ => id)) k hlt)
      have hk5 : k < 5 := by omega
      cases hfk : f k with
      | false =>
        rw [hfk] at hcall
        go_wp2_with (go_at_call 29; refine hcall.out.mono ?_; rintro e w' ⟨rfl, k', rfl⟩)
        go_roundw
        case rel => exact ⟨k + 1, by omega, by go_num, by rw [setB, hfk, hX.out]; rfl, hcw.drewN _⟩
        case measure => simp [intOf]; omega
      | true =>
        rw [hfk] at hcall
        go_wp2_with (go_at_call 29; refine hcall.out.mono ?_; rintro e w' ⟨rfl, k', rfl⟩)
        go_roundw
        case rel => exact ⟨k + 1, by omega, by go_num, by rw [setB, hfk, hX.out, or_bits5 k hk5 x hsl]; rfl, hcw.drewN _⟩
        case measure => simp [intOf]; omega
    · obtain rfl : k = n := by omega
      go_wp2
      go_ret2
      exact ⟨by rw [hX.out]; rfl, hcw⟩

end Go.Proofs.Ytgpjjbfmckcjgaa
