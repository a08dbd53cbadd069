/-
  Is a number in a set, that is told as bits.
  Conditions: the set is less than 2 to the 40th.
-/
import Derived.Test.YtckgkgaoioigdaaDoorSame
namespace Go.Proofs.YtckgkgaoioigdaaDoor
open Go Go.RowKit

def bitB (x i : Nat) : Bool := decide (x / 2 ^ i % 2 = 1)

theorem half_steps (x j : Nat) : x / 2 ^ j / 2 = x / 2 ^ (j + 1) := by
  rw [Nat.div_div_eq_div_mul, Nat.pow_succ]

theorem bit_small {x j i : Nat} (h : x / 2 ^ j = 0) (hj : j ≤ i) : x / 2 ^ i = 0 := by
  have h1 : x < 2 ^ j := by
    rcases Nat.lt_or_ge x (2 ^ j) with h' | h'
    · exact h'
    · have := Nat.div_pos h' (Nat.pow_pos (by omega : 0 < 2)); omega
  exact Nat.div_eq_of_lt (Nat.lt_of_lt_of_le h1 (Nat.pow_le_pow_right (by omega) hj))

set_option maxHeartbeats 1000000 in
theorem bit_any (x i : Nat) (hx : x ≤ 1099511627776) (hi : i ≤ 1000) (w : World) :
    Calls Tryd.prog 17 #[.int .i64 x, .int .i64 i] w fun e w' => e = .returned (.bool (bitB x i)) ∧ w = w' := by
  go_enter Tryd.func17, Tryd.ntmps17
  go_wp2
  go_loop [0, 5] (fun s k => ∃ j : Nat, j ≤ i ∧ k = .int .i64 j ∧ ∃ y : Nat, s = .int .i64 y ∧ y ≤ 1099511627776 ∧ Hid (x / 2 ^ j = y)) (fun _ k => i - (intOf k).toNat)
  case atStart => exact ⟨0, Nat.zero_le _, rfl, x, rfl, hx, Lib.hid (by simp)⟩
  case round =>
    obtain ⟨j, hji, rfl, y, rfl, hy, HY⟩ := hrel
    by_cases hlt : j < i
    · have h1 : (j : Int) < i := by omega
      by_cases h0 : y = 0
      · have HE : Hid (bitB x i = false) := Lib.hid (by unfold bitB; rw [bit_small (by rw [HY.out]; exact h0) hji]; rfl)
        have hb : ((y : Int) == 0) = true := by rw [h0]; rfl
        have hc : ((y : Int) % 2 == 1) = false := by rw [h0]; rfl
        clear h0
        go_wp2
        go_ret
        exact ⟨by rw [HE.out]; rfl, rfl⟩
      · have hb : ((y : Int) == 0) = false := by rw [beq_eq_false_iff_ne]; omega
        have HY2 : Hid (x / 2 ^ (j + 1) = y / 2) := Lib.hid (by rw [← half_steps, HY.out])
        clear h0
        go_wp2
        go_round
        case rel => exact ⟨j + 1, by omega, by go_num, y / 2, by first | rfl | go_num, by omega, HY2⟩
        case measure => simp [intOf]; omega
    · obtain rfl : j = i := by omega
      have HE : Hid (bitB x j = ((y : Int) % 2 == 1)) := Lib.hid (by
        unfold bitB; rw [HY.out]
        by_cases h : y % 2 = 1
        · rw [decide_eq_true h]; symm; rw [beq_iff_eq]; omega
        · rw [decide_eq_false h]; symm; rw [beq_eq_false_iff_ne]; omega)
      go_wp2
      go_ret
      exact ⟨by rw [HE.out]; rfl, rfl⟩

end Go.Proofs.YtckgkgaoioigdaaDoor
