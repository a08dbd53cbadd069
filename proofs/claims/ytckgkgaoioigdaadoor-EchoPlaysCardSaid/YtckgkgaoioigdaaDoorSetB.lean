/-
  Sets as numbers: which bit is set, one thing more, powers of two.
  Conditions: the set is less than 2 to the 20th.
-/
import Derived.Test.YtckgkgaoioigdaaDoorBit
namespace Go.Proofs.YtckgkgaoioigdaaDoor
open Go Go.RowKit

/-- The set of the numbers below n that f lets by. -/
def setB (f : Nat → Bool) : Nat → Nat
  | 0 => 0
  | n + 1 => setB f n + if f n then 2 ^ n else 0

theorem setB_lt (f : Nat → Bool) : ∀ n, setB f n < 2 ^ n
  | 0 => by simp [setB]
  | n + 1 => by
    have := setB_lt f n
    have h2 : 2 ^ (n + 1) = 2 ^ n + 2 ^ n := by rw [Nat.pow_succ]; omega
    unfold setB; split <;> omega

theorem setB_congr {f g : Nat → Bool} : ∀ {n : Nat}, (∀ k, k < n → f k = g k) → setB f n = setB g n
  | 0, _ => rfl
  | n + 1, h => by unfold setB; rw [setB_congr (fun k hk => h k (by omega)), h n (by omega)]

theorem bit_add (a j n : Nat) (h : j < n) : (a + 2 ^ n) / 2 ^ j % 2 = a / 2 ^ j % 2 := by
  obtain ⟨m, rfl⟩ : ∃ m, n = j + (m + 1) := ⟨n - j - 1, by omega⟩
  have e : 2 ^ (j + (m + 1)) = 2 ^ j * (2 * 2 ^ m) := by rw [Nat.pow_add, Nat.pow_succ]; rw [Nat.mul_comm (2 ^ m) 2]
  rw [e, Nat.add_mul_div_left _ _ (Nat.pow_pos (by omega)), Nat.add_mul_mod_self_left]

theorem bit_setB (f : Nat → Bool) : ∀ (n j : Nat), j < n → bitB (setB f n) j = f j
  | n + 1, j, hj => by
    unfold setB
    by_cases e : j = n
    · subst e
      have h1 := setB_lt f j
      unfold bitB
      cases hf : f j with
      | false => simp [Nat.div_eq_of_lt h1]
      | true =>
        have e1 : (setB f j + 2 ^ j) / 2 ^ j = 1 := by
          rw [Nat.add_div_right _ (Nat.pow_pos (by omega)), Nat.div_eq_of_lt h1]
        simp [e1]
    · have hlt : j < n := by omega
      rw [← bit_setB f n j hlt]
      unfold bitB
      split
      · rw [bit_add _ _ _ hlt]
      · rw [Nat.add_zero]

theorem setB_put (f : Nat → Bool) (i : Nat) (hf : f i = false) : ∀ n, i < n → setB (fun k => if k = i then true else f k) n = setB f n + 2 ^ i
  | n + 1, hi => by
    unfold setB
    by_cases e : i = n
    · subst e
      rw [setB_congr (g := f) (fun k hk => if_neg (show ¬ k = i by omega)), if_pos rfl, hf]
      simp
    · rw [setB_put f i hf n (by omega), if_neg (show ¬ n = i by omega)]
      omega

theorem setB_drop (f : Nat → Bool) (i : Nat) (hf : f i = true) : ∀ n, i < n → setB (fun k => if k = i then false else f k) n + 2 ^ i = setB f n
  | n + 1, hi => by
    unfold setB
    by_cases e : i = n
    · subst e
      rw [setB_congr (g := f) (fun k hk => if_neg (show ¬ k = i by omega)), if_pos rfl, hf]
      simp
    · have := setB_drop f i hf n (by omega)
      rw [if_neg (show ¬ n = i by omega)]
      omega

theorem setB_full : ∀ n, setB (fun _ => true) n = 2 ^ n - 1
  | 0 => rfl
  | n + 1 => by
    unfold setB
    rw [setB_full n, if_pos rfl, Nat.pow_succ]
    have := Nat.pow_pos (n := n) (show 0 < 2 by omega)
    omega

/-- A thing more in a set. -/
def withB (x i : Nat) : Nat := if bitB x i then x else x + 2 ^ i
theorem with_setB (f : Nat → Bool) {n i : Nat} (hi : i < n) : withB (setB f n) i = setB (fun k => if k = i then true else f k) n := by
  unfold withB
  rw [bit_setB f n i hi]
  cases hf : f i with
  | false => rw [setB_put f i hf n hi]; rfl
  | true =>
    rw [if_pos rfl]
    exact setB_congr fun k _ => by
      by_cases e : k = i
      · rw [e, if_pos rfl, hf]
      · rw [if_neg e]

set_option maxHeartbeats 1000000 in
theorem with_any (x i : Nat) (hx : x ≤ 1048576) (hi : i ≤ 20) (w : World) :
    Calls Tryd.prog 31 #[.int .i64 x, .int .i64 i] w fun e w' => e = .returned (.int .i64 (withB x i : Nat)) ∧ w = w' := by
  have hp : 2 ^ i ≤ 1048576 := Nat.pow_le_pow_right (n := 2) (by omega) hi
  have HB := Lib.hid (bit_any x i (by omega) (by omega) w)
  have HP := Lib.hid (pow2_any i w (by omega))
  obtain ⟨p, HPW⟩ : ∃ p, Hid (2 ^ i = p) := ⟨_, Lib.hid rfl⟩
  rw [HPW.out] at hp HP
  cases hb : bitB x i with
  | true =>
    have HW : Hid (withB x i = x) := Lib.hid (by unfold withB; rw [if_pos hb])
    rw [hb] at HB
    clear hb
    go_enter Tryd.func31, Tryd.ntmps31
    go_wp2_with fail
    refine HB.out.mono ?_
    rintro e w' ⟨rfl, rfl⟩
    go_wp2
    go_ret
    exact ⟨by rw [HW.out]; rfl, rfl⟩
  | false =>
    have HW : Hid (withB x i = x + p) := Lib.hid (by unfold withB; rw [if_neg (by rw [hb]; simp), HPW.out])
    rw [hb] at HB
    clear hb
    go_enter Tryd.func31, Tryd.ntmps31
    go_wp2_with fail
    refine HB.out.mono ?_
    rintro e w' ⟨rfl, rfl⟩
    go_wp2_with fail
    refine HP.out.mono ?_
    rintro e w' ⟨rfl, rfl⟩
    go_wp2
    go_ret
    exact ⟨ret_int (by rw [HW.out]; push_cast; rfl), rfl⟩

end Go.Proofs.YtckgkgaoioigdaaDoor
