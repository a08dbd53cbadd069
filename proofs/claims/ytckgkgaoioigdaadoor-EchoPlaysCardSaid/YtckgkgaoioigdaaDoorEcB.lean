/-
  The wave that comes back: sets as bits.
  Conditions: the sets are small.
-/
import Derived.Test.YtckgkgaoioigdaaDoorSame
import Derived.Test.YtckgkgaoioigdaaDoorEcMath3
namespace Go.Proofs.YtckgkgaoioigdaaDoor
open Go Go.RowKit

theorem bv_and (a b : Nat) (ha : a < 2 ^ 40) (hb : b < 2 ^ 40) : IntKind.i64.wrap (((BitVec.ofInt 64 (a : Int) &&& BitVec.ofInt 64 (b : Int)).toNat : Nat) : Int) = ((a &&& b : Nat) : Int) := by
  have h1 : (BitVec.ofInt 64 (a : Int)).toNat = a := by simp [BitVec.toNat_ofInt]; omega
  have h2 : (BitVec.ofInt 64 (b : Int)).toNat = b := by simp [BitVec.toNat_ofInt]; omega
  have h3 : a &&& b ≤ a := Nat.and_le_left
  rw [BitVec.toNat_and, h1, h2]
  exact IntWalk.i64_in _ (by omega)
theorem bv_or (a b : Nat) (ha : a < 2 ^ 40) (hb : b < 2 ^ 40) : IntKind.i64.wrap (((BitVec.ofInt 64 (a : Int) ||| BitVec.ofInt 64 (b : Int)).toNat : Nat) : Int) = ((a ||| b : Nat) : Int) := by
  have h1 : (BitVec.ofInt 64 (a : Int)).toNat = a := by simp [BitVec.toNat_ofInt]; omega
  have h2 : (BitVec.ofInt 64 (b : Int)).toNat = b := by simp [BitVec.toNat_ofInt]; omega
  have h3 : a ||| b < 2 ^ 40 := Nat.or_lt_two_pow ha hb
  rw [BitVec.toNat_or, h1, h2]
  exact IntWalk.i64_in _ (by omega)
theorem bv_but (a b : Nat) (ha : a < 2 ^ 40) (hb : b < 2 ^ 40) : IntKind.i64.wrap (((BitVec.ofInt 64 (a : Int) &&& ~~~(BitVec.ofInt 64 (b : Int))).toNat : Nat) : Int) = ((a ^^^ (a &&& b) : Nat) : Int) := by
  have h1 : (BitVec.ofInt 64 (a : Int)).toNat = a := by simp [BitVec.toNat_ofInt]; omega
  have h2 : (BitVec.ofInt 64 (b : Int)).toNat = b := by simp [BitVec.toNat_ofInt]; omega
  have h4 : (BitVec.ofInt 64 (a : Int) &&& ~~~(BitVec.ofInt 64 (b : Int))).toNat = a ^^^ (a &&& b) := by
    apply Nat.eq_of_testBit_eq
    intro i
    rw [BitVec.toNat_and, Nat.testBit_and, Nat.testBit_xor, Nat.testBit_and, h1]
    by_cases hi : i < 64
    · have : (~~~(BitVec.ofInt 64 (b : Int))).toNat.testBit i = !(b.testBit i) := by
        rw [BitVec.testBit_toNat, BitVec.getLsbD_not, ← BitVec.testBit_toNat, h2]
        simp [hi]
      rw [this]
      cases a.testBit i <;> cases b.testBit i <;> rfl
    · have : a.testBit i = false := Nat.testBit_lt_two_pow (Nat.lt_of_lt_of_le ha (Nat.pow_le_pow_right (by omega) (by omega)))
      rw [this]; simp
  rw [h4]
  have h3 : a ^^^ (a &&& b) < 2 ^ 40 := Nat.xor_lt_two_pow ha (Nat.lt_of_le_of_lt Nat.and_le_left ha)
  exact IntWalk.i64_in _ (by omega)

theorem bits_and_nat (a b : Nat) (ha : a < 2 ^ 40) (hb : b < 2 ^ 40) : bits .and .i64 (a : Int) (b : Int) = ((a &&& b : Nat) : Int) := bv_and a b ha hb
theorem bits_or_nat (a b : Nat) (ha : a < 2 ^ 40) (hb : b < 2 ^ 40) : bits .or .i64 (a : Int) (b : Int) = ((a ||| b : Nat) : Int) := bv_or a b ha hb
theorem bits_but_nat (a b : Nat) (ha : a < 2 ^ 40) (hb : b < 2 ^ 40) : bits .andNot .i64 (a : Int) (b : Int) = ((a ^^^ (a &&& b) : Nat) : Int) := bv_but a b ha hb
theorem shl_nat (n : Nat) (hn : n ≤ 40) : wrap64 (2 ^ n) = ((2 ^ n : Nat) : Int) := by
  have h1 : (2 : Nat) ^ n ≤ 2 ^ 40 := Nat.pow_le_pow_right (by omega) hn
  have h2 : ((2 : Int) ^ n) = ((2 ^ n : Nat) : Int) := by push_cast; rfl
  rw [h2]
  generalize (2 : Nat) ^ n = m at *
  exact IntWalk.wrap64_in _ (by omega)

theorem shl_nat2 (n : Nat) (hn : n ≤ 40) : IntKind.i64.wrap (2 ^ n) = ((2 ^ n : Nat) : Int) := by
  have h1 : (2 : Nat) ^ n ≤ 2 ^ 40 := Nat.pow_le_pow_right (by omega) hn
  have h2 : ((2 : Int) ^ n) = ((2 ^ n : Nat) : Int) := by push_cast; rfl
  rw [h2]
  generalize (2 : Nat) ^ n = m at *
  exact IntWalk.i64_in _ (by omega)

set_option maxHeartbeats 1000000 in
theorem has_any (x i : Nat) (hx : x < 2 ^ 40) (hi : i ≤ 40) (w : World) :
    Calls Tryd.prog 26 #[.int .i64 x, .int .i64 i] w fun e w' => e = .returned (.bool (x.testBit i)) ∧ w = w' := by
  have HB : Hid ((bits .and .i64 ((x : Int) / 2 ^ i) 1 == 1) = x.testBit i) := Lib.hid (by
    have h1 : ((x : Int) / 2 ^ i) = ((x / 2 ^ i : Nat) : Int) := by push_cast; rfl
    have h2 : x / 2 ^ i ≤ x := Nat.div_le_self _ _
    rw [h1, show (1 : Int) = ((1 : Nat) : Int) from rfl, bits_and_nat _ _ (by omega) (by omega), Nat.testBit_eq_decide_div_mod_eq, Nat.and_one_is_mod]
    by_cases e : x / 2 ^ i % 2 = 1
    · rw [e]; simp
    · have : x / 2 ^ i % 2 = 0 := by omega
      rw [this]; simp)
  go_enter Tryd.func26, Tryd.ntmps26
  go_wp2
  go_ret
  exact ⟨by rw [← HB.out]; rfl, rfl⟩

set_option maxHeartbeats 1000000 in
theorem mask_any (x : Int) (n : Nat) (hn : n ≤ 5) (w : World) :
    Calls Tryd.prog 25 #[.int .i64 x, .int .i64 n] w fun e w' => e = .returned (.bool (decide (0 ≤ x) && decide (x < ((2 ^ n : Nat) : Int)))) ∧ w = w' := by
  obtain ⟨m, HM⟩ : ∃ m, Hid (((2 ^ n : Nat) : Int) = m) := ⟨_, Lib.hid rfl⟩
  have HS := Lib.hid (shl_nat n (by omega))
  rw [HM.out] at HS ⊢
  have hw : wrap64 (2 ^ n) = m := HS.out
  by_cases h0 : 0 ≤ x
  · have HD : Hid (decide (0 ≤ x) = true) := Lib.hid (decide_eq_true h0)
    go_enter Tryd.func25, Tryd.ntmps25
    go_wp2
    go_ret
    exact ⟨by rw [HD.out]; rfl, rfl⟩
  · have HD : Hid (decide (0 ≤ x) = false) := Lib.hid (decide_eq_false h0)
    go_enter Tryd.func25, Tryd.ntmps25
    go_wp2
    go_ret
    exact ⟨by rw [HD.out]; rfl, rfl⟩

/-! ### slices.Repeat of one number -/
set_option maxHeartbeats 1000000 in
theorem mul_any (n : Nat) (hn : n ≤ 5) (w : World) :
    Calls Tryd.prog 34 #[.int .u64 1, .int .u64 n] w fun e w' => e = .returned (.tuple #[.int .u64 0, .int .u64 n]) ∧ w = w' := by
  have hc : n = 0 ∨ n = 1 ∨ n = 2 ∨ n = 3 ∨ n = 4 ∨ n = 5 := by omega
  rcases hc with rfl | rfl | rfl | rfl | rfl | rfl
  all_goals
    go_enter Tryd.func34, Tryd.ntmps34
    go_wp2
    go_ret2
    exact ⟨by kernel_rfl, rfl⟩

end Go.Proofs.YtckgkgaoioigdaaDoor
