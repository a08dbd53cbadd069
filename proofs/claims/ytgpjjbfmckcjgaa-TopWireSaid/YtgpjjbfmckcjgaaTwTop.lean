/-
  The statement of TopWire, off its walk.
  Conditions: none: for every input the call returns true, and each argument reads as it did.
-/
import Derived.Test.YtgpjjbfmckcjgaaTwC
import Derived.Test.YtgpjjbfmckcjgaaRows
import Derived.WalkKit
import Derived.ProofKit
import Derived.OpenShut
import Derived.ShutString
import Derived.ChangeOld
import Derived.Below
namespace Go.Proofs.Ytgpjjbfmckcjgaa.topWire
open Go.ChangeShapes Go.WideShapes Go.ChangeAt Go.RowKit
open Go.ChangeMaps (open_string shut_string)
set_option linter.unusedVariables false

theorem own : ownKnob Try.prog.godebug = none := by kernel_rfl
theorem laidOut : laidOutB Try.prog = true := by kernel_rfl

theorem walk (v0 : Value) (l0 : List Int) (v1 : Value) (l1 : List Int) (v2 : Value) (l2 : List Int) (w : World) (w0 : Rd (fun k => k < w.heap.size) w v0 l0) (b0 : l0.length ≤ 9223372036854775807) (z0 : ∀ j, j < l0.length → -9223372036854775808 ≤ l0.getD j 0 ∧ l0.getD j 0 ≤ 9223372036854775807) (w1 : Rd (fun k => k < w.heap.size) w v1 l1) (b1 : l1.length ≤ 9223372036854775807) (z1 : ∀ j, j < l1.length → -9223372036854775808 ≤ l1.getD j 0 ∧ l1.getD j 0 ≤ 9223372036854775807) (w2 : Rd (fun k => k < w.heap.size) w v2 l2) (b2 : l2.length ≤ 9223372036854775807) (z2 : ∀ j, j < l2.length → -9223372036854775808 ≤ l2.getD j 0 ∧ l2.getD j 0 ≤ 9223372036854775807) :
    Calls Try.prog 5 #[v0, v1, v2] w fun e w' => e = .returned (.bool true) ∧ Below w.heap.size w w' := by
  refine (wire_walk v0 v1 v2 l0 l1 l2 w w0 w1 w2 b0 b1 b2 z1).mono ?_
  rintro e w' ⟨he, hc⟩
  exact ⟨he, hc.below (Nat.le_refl _) (fun k hk hn => hn hk)⟩

set_option maxRecDepth 100000 in
theorem lifted (os : Os) (started : os.Started) (H : Type) (enc : TypeId × Value → H) :
    ReturnsInHanded {} Try.checked os 5 .any (Rows.topWireSpec.pre6 enc Try.prog Try.f5 Rows.topWireRow.domain false) (Rows.topWireSpec.post enc Try.prog Try.f5 false true false false) := by
  refine returnsInHanded_of_change (C := Try.checked) own started (by kernel_rfl) Try.func5
    (ChangeSpec.witness6 (enc := enc) (C := Try.checked) false ⟨#[], #[.slice none 0 0, .slice none 0 0, .slice none 0 0], []⟩ 8 (by kernel_rfl) (by kernel_rfl) (by kernel_rfl) (by kernel_rfl)) ?_
  intro W base args ds gs before hval0 hW hcnd _
  have hval : ∀ (j : Nat) t v, Try.f5.params[j]? = some t → args[j]? = some v → Value.okWide Try.prog W .any base t v := hval0
  have hW' := hW
  obtain ⟨p, q, hA0, hV, rfl, hfz, hnd⟩ := hW
  have hA : DataW.TrodAll enc Try.prog W 0 (fun _ => true) true Try.f5.params.toList args.toList ds p := hA0
  rw [Try.params5] at hA hval
  obtain ⟨v0, vs0, d0, ds0, p0, q0, hargs, rfl, rfl, h0, r0⟩ := trodAll_cons hA
  obtain ⟨v1, vs1, d1, ds1, p1, q1, rfl, rfl, rfl, h1, r1⟩ := trodAll_cons r0
  obtain ⟨v2, vs2, d2, ds2, p2, q2, rfl, rfl, rfl, h2, r2⟩ := trodAll_cons r1
  obtain ⟨rfl, rfl, rfl⟩ := trodAll_nil r2
  obtain rfl : args = #[v0, v1, v2] := by cases args; simp_all
  obtain ⟨rfl, rfl⟩ := trodVars_none hV
  obtain ⟨A0, len0, cap0, rfl⟩ := okWide_slice Try.underlying22 (hval 0 22 v0 rfl rfl)
  have k0 := h0
  have lt0 : ∀ x ∈ p0, x.block < W.heap.size := by obtain ⟨m, hm⟩ := k0; exact DataW.trod_lt m _ _ _ hm
  obtain ⟨l0, w0, b0, z0⟩ : ∃ l, Rd (fun k => k < W.heap.size) W (.slice A0 len0 cap0) l ∧ l.length ≤ 9223372036854775807 ∧ ∀ j, j < l.length → -9223372036854775808 ≤ l.getD j 0 ∧ l.getD j 0 ≤ 9223372036854775807 := by
    obtain ⟨fuel, hf⟩ := h0
    rcases open_ints Try.underlying22 Try.underlying3 (by kernel_rfl) hf with ⟨hcs, _⟩ | ⟨x, l, c, zs, hcs, _, hl, hm, hz, _, hcell, hwz⟩
    · simp [Value.cells] at hcs
      obtain ⟨rfl, rfl, rfl⟩ := hcs
      exact ⟨[], Rd.nil _ _, by simp, fun j hj => by simp at hj⟩
    · simp [Value.cells] at hcs
      obtain ⟨rfl, rfl, rfl⟩ := hcs
      refine ⟨zs.take len0, Rd.ofRow _ (.inr ⟨_, rfl, hl, hm, by simpa using hz, hcell, hwz⟩) (Nat.le_refl _), ?_, fun j hj => ?_⟩
      · have : maxLen = 9223372036854775807 := rfl
        have := List.length_take_le len0 zs; omega
      · have hw : (Lit.int .i64 (zs.take len0)[j]).wf = true := hwz _ (List.mem_of_mem_take (List.getElem_mem hj))
        have := bounds_i64 hw
        simp only [List.getD, List.getElem?_eq_getElem hj, Option.getD_some]
        exact this
  obtain ⟨A1, len1, cap1, rfl⟩ := okWide_slice Try.underlying22 (hval 1 22 v1 rfl rfl)
  have k1 := h1
  have lt1 : ∀ x ∈ p1, x.block < W.heap.size := by obtain ⟨m, hm⟩ := k1; exact DataW.trod_lt m _ _ _ hm
  obtain ⟨l1, w1, b1, z1⟩ : ∃ l, Rd (fun k => k < W.heap.size) W (.slice A1 len1 cap1) l ∧ l.length ≤ 9223372036854775807 ∧ ∀ j, j < l.length → -9223372036854775808 ≤ l.getD j 0 ∧ l.getD j 0 ≤ 9223372036854775807 := by
    obtain ⟨fuel, hf⟩ := h1
    rcases open_ints Try.underlying22 Try.underlying3 (by kernel_rfl) hf with ⟨hcs, _⟩ | ⟨x, l, c, zs, hcs, _, hl, hm, hz, _, hcell, hwz⟩
    · simp [Value.cells] at hcs
      obtain ⟨rfl, rfl, rfl⟩ := hcs
      exact ⟨[], Rd.nil _ _, by simp, fun j hj => by simp at hj⟩
    · simp [Value.cells] at hcs
      obtain ⟨rfl, rfl, rfl⟩ := hcs
      refine ⟨zs.take len1, Rd.ofRow _ (.inr ⟨_, rfl, hl, hm, by simpa using hz, hcell, hwz⟩) (Nat.le_refl _), ?_, fun j hj => ?_⟩
      · have : maxLen = 9223372036854775807 := rfl
        have := List.length_take_le len1 zs; omega
      · have hw : (Lit.int .i64 (zs.take len1)[j]).wf = true := hwz _ (List.mem_of_mem_take (List.getElem_mem hj))
        have := bounds_i64 hw
        simp only [List.getD, List.getElem?_eq_getElem hj, Option.getD_some]
        exact this
  obtain ⟨A2, len2, cap2, rfl⟩ := okWide_slice Try.underlying22 (hval 2 22 v2 rfl rfl)
  have k2 := h2
  have lt2 : ∀ x ∈ p2, x.block < W.heap.size := by obtain ⟨m, hm⟩ := k2; exact DataW.trod_lt m _ _ _ hm
  obtain ⟨l2, w2, b2, z2⟩ : ∃ l, Rd (fun k => k < W.heap.size) W (.slice A2 len2 cap2) l ∧ l.length ≤ 9223372036854775807 ∧ ∀ j, j < l.length → -9223372036854775808 ≤ l.getD j 0 ∧ l.getD j 0 ≤ 9223372036854775807 := by
    obtain ⟨fuel, hf⟩ := h2
    rcases open_ints Try.underlying22 Try.underlying3 (by kernel_rfl) hf with ⟨hcs, _⟩ | ⟨x, l, c, zs, hcs, _, hl, hm, hz, _, hcell, hwz⟩
    · simp [Value.cells] at hcs
      obtain ⟨rfl, rfl, rfl⟩ := hcs
      exact ⟨[], Rd.nil _ _, by simp, fun j hj => by simp at hj⟩
    · simp [Value.cells] at hcs
      obtain ⟨rfl, rfl, rfl⟩ := hcs
      refine ⟨zs.take len2, Rd.ofRow _ (.inr ⟨_, rfl, hl, hm, by simpa using hz, hcell, hwz⟩) (Nat.le_refl _), ?_, fun j hj => ?_⟩
      · have : maxLen = 9223372036854775807 := rfl
        have := List.length_take_le len2 zs; omega
      · have hw : (Lit.int .i64 (zs.take len2)[j]).wf = true := hwz _ (List.mem_of_mem_take (List.getElem_mem hj))
        have := bounds_i64 hw
        simp only [List.getD, List.getElem?_eq_getElem hj, Option.getD_some]
        exact this
  clear hA0 hval0
  refine (walk (.slice A0 len0 cap0) l0 (.slice A1 len1 cap1) l1 (.slice A2 len2 cap2) l2 W w0 b0 z0 w1 b1 z1 w2 b2 z2).mono fun e W' ⟨he, bel⟩ => ?_
  subst he
  exact ⟨_, rfl, _, _, _, [], _, [], hW', trodAll_mk1 (shut_bool Try.underlying4 _), (trodAll_cons_mk (Below.trod laidOut (by kernel_rfl) (of_decide_eq_true (by kernel_rfl)) k0 bel lt0) (trodAll_cons_mk (Below.trod laidOut (by kernel_rfl) (of_decide_eq_true (by kernel_rfl)) k1 bel lt1) (trodAll_cons_mk (Below.trod laidOut (by kernel_rfl) (of_decide_eq_true (by kernel_rfl)) k2 bel lt2) trodAll_mk0))), rfl, bel.frame _, fun h => by cases h⟩

theorem over : Rows.topWireRow.holds Try.pinned (OpenSpec.ofChange Rows.topWireSpec) :=
  OpenClaim.holds_of_wide 5 Try.f5 rfl rfl rfl rfl rfl rfl rfl ⟨rfl, rfl, rfl, rfl, rfl⟩ rfl rfl rfl rfl rfl (by kernel_rfl) Try.func5 (by kernel_rfl)
    (of_decide_eq_true (by kernel_rfl)) (by unfold Func.isWrapper; first | (rw [if_pos (by decide +kernel)]; kernel_rfl) | (rw [if_neg (by decide +kernel)]; exact ⟨rfl, rfl⟩))
    (fun os started H enc _ => lifted os started H enc)

theorem proved : Rows.TopWireSaid := over
#print axioms proved
end Go.Proofs.Ytgpjjbfmckcjgaa.topWire
