/-
  What the statements of all layers ask alike: are two lists the same; powers of 2; is a number between two.
  Conditions: the lists are read as integers, and are shorter than 2^62; a power's exponent is at most 40.
-/
import Derived.Test.YtckgkgaoioigdaaDoorClone
import Derived.BigQuiet
import Derived.Deep.QuietTactic
namespace Go.Proofs.YtckgkgaoioigdaaDoor
open Go Go.RowKit

def inB (n lo hi : Int) : Bool := decide (lo ≤ n) && decide (n ≤ hi)

set_option maxHeartbeats 400000 in
theorem within_any (n lo hi : Int) (w : World) :
    Calls Tryd.prog 33 #[.int .i64 n, .int .i64 lo, .int .i64 hi] w fun e w' => e = .returned (.bool (inB n lo hi)) ∧ w = w' := by
  by_cases h : lo ≤ n
  · go_enter Tryd.func33, Tryd.ntmps33
    go_wp2
    go_ret
    exact ⟨ret_bool (by simp [inB, h]), rfl⟩
  · go_enter Tryd.func33, Tryd.ntmps33
    go_wp2
    go_ret
    exact ⟨ret_bool (by simp [inB]; omega), rfl⟩



set_option maxHeartbeats 400000 in
theorem ref6In_any (n lo hi : Int) (w : World) :
    Calls Tryd.prog 30 #[.int .i64 n, .int .i64 lo, .int .i64 hi] w fun e w' => e = .returned (.bool (inB n lo hi)) ∧ w = w' := by
  by_cases h : lo ≤ n
  · go_enter Tryd.func30, Tryd.ntmps30
    go_wp2
    go_ret
    exact ⟨ret_bool (by simp [inB, h]), rfl⟩
  · go_enter Tryd.func30, Tryd.ntmps30
    go_wp2
    go_ret
    exact ⟨ret_bool (by simp [inB]; omega), rfl⟩

theorem two_pow_le (k m : Nat) (h : k ≤ m) : (2 : Int) ^ k ≤ 2 ^ m := by exact_mod_cast Nat.pow_le_pow_right (by omega) h
set_option maxHeartbeats 400000 in
theorem pow2_any (n : Nat) (w : World) (hn : n ≤ 40) :
    Calls Tryd.prog 32 #[.int .i64 n] w fun e w' => e = .returned (.int .i64 (2 ^ n : Nat)) ∧ w = w' := by
  go_enter Tryd.func32, Tryd.ntmps32
  go_wp2
  go_loop [3, 4] (fun p i => ∃ k : Nat, k ≤ n ∧ i = .int .i64 k ∧ ∃ x : Nat, p = .int .i64 x ∧ Hid (2 ^ k = x) ∧ x ≤ 1099511627776) (fun _ i => n - (intOf i).toNat)
  case atStart => exact ⟨0, Nat.zero_le _, rfl, 1, rfl, Lib.hid rfl, by omega⟩
  case round =>
    obtain ⟨k, hkn, rfl, x, rfl, HX, hx⟩ := hrel
    by_cases hlt : k < n
    · have hx2 : x * 2 ≤ 1099511627776 := by
        have h1 := Nat.pow_le_pow_right (n := 2) (by omega) (show k + 1 ≤ 40 by omega)
        rw [Nat.pow_succ, HX.out] at h1; exact h1
      have hx3 : (x : Int) * 2 ≤ 1099511627776 := by omega
      have hx4 : (0 : Int) ≤ (x : Int) * 2 := by omega
      go_wp2
      go_round
      case rel => exact ⟨k + 1, by omega, by go_num, x * 2, by go_num, Lib.hid (by rw [Nat.pow_succ, HX.out]), hx2⟩
      case measure => simp [intOf]; omega
    · obtain rfl : k = n := by omega
      go_wp2
      go_ret
      exact ⟨ret_int (by exact_mod_cast HX.out.symm), rfl⟩

theorem drewN_drewN (w : World) (m n : Nat) : (w.drewN m).drewN n = w.drewN (m + n) := by simp [World.drewN, Nat.add_assoc]

theorem eq_of_getD {a b : List Int} (h : a.length = b.length) (hj : ∀ j, j < a.length → a.getD j 0 = b.getD j 0) : a = b := by
  apply List.ext_getElem h
  intro j h1 h2
  have := hj j h1
  simpa [List.getD, h1, h2] using this

set_option maxHeartbeats 1000000 in
theorem ints_any (S : Nat → Prop) (va vb : Value) (a b : List Int) (w : World) (ha : Rd S w va a) (hb : Rd S w vb b) (hla : a.length ≤ 9223372036854775807) (_hlb : b.length ≤ 9223372036854775807) :
    Calls Tryd.prog 11 #[va, vb] w fun e w' => e = .returned (.bool (decide (a = b))) ∧ ∃ k, w' = w.drewN k := by
  by_cases hl : a.length = b.length
  case neg =>
    obtain ⟨pa, ca, rfl⟩ := ha.val
    obtain ⟨pb, cb, rfl⟩ := hb.val
    have hR : Hid (decide (a = b) = false) := Lib.hid (decide_eq_false fun e => hl (by rw [e]))
    have hne : ((a.length : Int) != (b.length : Int)) = true := by rw [bne_iff_ne]; omega
    clear ha hb hl
    go_enter Tryd.func11, Tryd.ntmps11
    go_wp2
    go_ret
    exact ⟨ret_bool hR.out.symm, 0, rfl⟩
  case pos =>
    have HA := Lib.hid ha
    have HB := Lib.hid hb
    have HL := Lib.hid hl
    obtain ⟨pa, ca, rfl⟩ := ha.val
    obtain ⟨pb, cb, rfl⟩ := hb.val
    rw [← hl] at HB ⊢
    obtain ⟨n, hN⟩ : ∃ n, Hid (a.length = n) := ⟨_, Lib.hid rfl⟩
    rw [hN.out] at HA HB hla ⊢
    clear ha hb hl
    go_enter Tryd.func11, Tryd.ntmps11
    go_wp2
    go_loopw [5] (fun i wr => ∃ k : Nat, k ≤ n ∧ i = .int .i64 k ∧ Hid (∀ j, j < k → a.getD j 0 = b.getD j 0) ∧ ∃ m, wr = w.drewN m) (fun i _ => n - (intOf i).toNat)
    case atStart => exact ⟨0, Nat.zero_le _, rfl, Lib.hid (fun j hj => by omega), 0, rfl⟩
    case round =>
      obtain ⟨k, hkn, rfl, HE, m, rfl⟩ := hrel
      by_cases hlt : k < n
      · obtain ⟨b1, o1, c1, e1, _, hc1⟩ := HA.out.form (by rw [hN.out]; omega)
        obtain ⟨b2, o2, c2, e2, _, hc2⟩ := HB.out.form (by rw [← HL.out, hN.out]; omega)
        simp only [Value.slice.injEq] at e1 e2
        obtain ⟨rfl, -, rfl⟩ := e1
        obtain ⟨rfl, -, rfl⟩ := e2
        obtain ⟨x, hX⟩ : ∃ x, Hid (a.getD k 0 = x) := ⟨_, Lib.hid rfl⟩
        obtain ⟨y, hY⟩ : ∃ y, Hid (b.getD k 0 = y) := ⟨_, Lib.hid rfl⟩
        have h1 := hc1 k (by rw [hN.out]; omega)
        have h2 := hc2 k (by rw [← HL.out, hN.out]; omega)
        rw [hX.out] at h1
        rw [hY.out] at h2
        have hk0 : (0 : Int) ≤ k := by omega
        have hk1 : (k : Int) < n := by omega
        clear hc1 hc2
        cases hxy : (x != y) with
        | true =>
          have hR : Hid (decide (a = b) = false) := Lib.hid (decide_eq_false fun e => by subst e; rw [hX.out] at hY; have := hY.out; rw [bne_iff_ne] at hxy; exact hxy this)
          go_wp2
          go_quiet (fail)
          go_wp2
          go_ret
          first | exact ⟨ret_bool hR.out.symm, _, rfl⟩ | exact ⟨ret_bool hR.out.symm, _, drewN_drewN _ _ _⟩
        | false =>
          have HE' : Hid (∀ j, j < k + 1 → a.getD j 0 = b.getD j 0) := Lib.hid fun j hj => by
            by_cases e : j = k
            · subst e; rw [hX.out, hY.out]; simpa using hxy
            · exact HE.out j (by omega)
          go_wp2
          go_quiet (fail)
          go_wp2
          go_roundw
          case rel => first | exact ⟨k + 1, by omega, by go_num, HE', _, rfl⟩ | exact ⟨k + 1, by omega, by go_num, HE', _, drewN_drewN _ _ _⟩
          case measure => simp [intOf]; omega
      · obtain rfl : k = n := by omega
        have hR : Hid (decide (a = b) = true) := Lib.hid (decide_eq_true (eq_of_getD HL.out fun j hj => HE.out j (by rw [← hN.out]; exact hj)))
        go_wp2
        go_ret
        exact ⟨ret_bool hR.out.symm, _, rfl⟩

end Go.Proofs.YtckgkgaoioigdaaDoor
