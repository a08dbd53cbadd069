/-
  slices.Contains at []int.
  Conditions: the slice is read.
-/
import Derived.Test.YthblnljjhbdejaaDoorSame
namespace Go.Proofs.YthblnljjhbdejaaDoor
open Go Go.RowKit

/-! ### slices.Contains -/
def IndexPost (l : List Int) (x : Int) (w : World) (e : Ending) (w' : World) : Prop := ∃ r : Int, e = .returned (.int .i64 r) ∧ (decide (0 ≤ r) = l.contains x) ∧ r ≤ l.length ∧ -1 ≤ r ∧ w = w'

set_option maxHeartbeats 1000000 in
theorem index_any (S : Nat → Prop) (v : Value) (l : List Int) (x : Int) (w : World) (hr : Rd S w v l) (hlb : l.length ≤ 9223372036854775807) :
    Calls Tryd.prog 33 #[v, .int .i64 x] w (IndexPost l x w) := by
  obtain ⟨pa, ca, rfl⟩ := hr.val
  have HR := Lib.hid hr
  obtain ⟨n, hN⟩ : ∃ n, Hid (l.length = n) := ⟨_, Lib.hid rfl⟩
  rw [hN.out] at hlb HR ⊢
  clear hr
  have hP : Hid (∀ k, k < n → x = l.getD k 0 → l.contains x = true) := Lib.hid (fun k hk e => by
    have hk' : k < l.length := by rw [hN.out]; exact hk
    have : x = l[k] := by simpa [List.getD, hk'] using e
    rw [this]; simp)
  have hQ : Hid ((∀ j, j < n → l.getD j 0 ≠ x) → l.contains x = false) := Lib.hid (fun h => by
    rw [Bool.eq_false_iff]; intro hc
    obtain ⟨k, hk, e⟩ := List.getElem_of_mem (List.contains_iff_mem.1 hc)
    exact h k (by rw [← hN.out]; exact hk) (by simp [List.getD, hk, e]))
  go_enter Tryd.func33, Tryd.ntmps33
  go_wp2
  go_loop [5, 8] (fun _ i => ∃ k : Nat, k ≤ n ∧ i = .int .i64 k ∧ Hid (∀ j, j < k → l.getD j 0 ≠ x)) (fun _ i => n - (intOf i).toNat)
  case atStart => exact ⟨0, Nat.zero_le _, rfl, Lib.hid fun j hj => by omega⟩
  case round =>
    obtain ⟨k, hkn, rfl, HB⟩ := hrel
    by_cases hlt : k < n
    · obtain ⟨b, off, c, e1, _, hc⟩ := HR.out.form (by rw [hN.out]; omega)
      simp only [Value.slice.injEq] at e1
      obtain ⟨rfl, -, rfl⟩ := e1
      obtain ⟨y, hY⟩ : ∃ y, Hid (l.getD k 0 = y) := ⟨_, Lib.hid rfl⟩
      have hcell := hc k (by rw [hN.out]; omega)
      rw [hY.out] at hcell
      have hk0 : (0 : Int) ≤ k := by omega
      have hk1 : (k : Int) < n := by omega
      clear hc
      cases hxy : (x == y) with
      | true =>
        have HC := Lib.hid (hP.out k hlt (by rw [hY.out]; exact eq_of_beq hxy))
        go_wp2
        go_ret
        exact ⟨(k : Int), rfl, by rw [HC.out]; simp, by rw [hN.out]; omega, by omega, rfl⟩
      | false =>
        have HB' : Hid (∀ j, j < k + 1 → l.getD j 0 ≠ x) := Lib.hid fun j hj => by
          by_cases e : j = k
          · subst e; rw [hY.out]; intro e2; rw [e2] at hxy; simp at hxy
          · exact HB.out j (by omega)
        go_wp2
        go_round
        case rel => exact ⟨k + 1, by omega, by go_num, HB'⟩
        case measure => simp [intOf]; omega
    · obtain rfl : k = n := by omega
      have HC := Lib.hid (hQ.out HB.out)
      go_wp2
      go_ret
      exact ⟨-1, rfl, by rw [HC.out]; rfl, by rw [hN.out]; omega, by omega, rfl⟩

set_option maxHeartbeats 1000000 in
theorem contains_any (S : Nat → Prop) (v : Value) (l : List Int) (x : Int) (w : World) (hr : Rd S w v l) (hlb : l.length ≤ 9223372036854775807) :
    Calls Tryd.prog 28 #[v, .int .i64 x] w fun e w' => e = .returned (.bool (l.contains x)) ∧ w = w' := by
  have HI := Lib.hid (index_any S v l x w hr hlb)
  clear hr
  go_enter Tryd.func28, Tryd.ntmps28
  go_wp2_with fail
  refine HI.out.mono ?_
  rintro e w' ⟨r, rfl, hd, _, _, rfl⟩
  have HD := Lib.hid hd
  clear hd
  go_wp2
  go_ret
  exact ⟨by rw [← HD.out]; rfl, rfl⟩

end Go.Proofs.YthblnljjhbdejaaDoor
