/-
  slices.Clone at []int: a copy in memory of the call's own; and two closed facts of the program.
  Conditions: the slice reads as fewer than 1000000 integers.
-/
import Derived.Test.YtckgkgaoioigdaaDoorRows
import Derived.Test.YtckgkgaoioigdaaDoorRegion
import Derived.Test.YtckgkgaoioigdaaDoorInts
import Derived.WalkSpells
import Derived.WalkLawsBesides
import Derived.Lib.Walk
import Derived.Lib.SliceRun
namespace Go.Proofs.YtckgkgaoioigdaaDoor
open Go Go.RowKit

theorem mixed : Tryd.prog.follows .mixedOrders = true := by kernel_rfl
theorem infoInt : (Tryd.prog.info? 3).map (fun i => (i.zero, i.size, i.bytes)) = some (some (.int .i64 0), 1, 8) := by kernel_rfl
theorem ret_bool {a b : Bool} (h : a = b) : Ending.returned (.bool a) = .returned (.bool b) := by rw [h]
theorem ret_int {a b : Int} (h : a = b) : Ending.returned (.int .i64 a) = .returned (.int .i64 b) := by rw [h]

set_option maxHeartbeats 2000000 in
set_option maxRecDepth 100000 in
/-- slices.Clone at []int. -/
theorem clone_any (S : Nat → Prop) (v : Value) (l : List Int) (w : World) (hr : Rd S w v l) (hb : l.length < 1000000) :
    Calls Tryd.prog 20 #[v] w fun e w' => ∃ v', e = .returned v' ∧ w'.ownsRow w.heap.size 3 1 v' l.length (l.map (.int .i64)) ∧ Chg NoF w w' := by
  obtain ⟨a, c, rfl, hr⟩ := hr
  obtain ⟨n, hN⟩ : ∃ n, Hid (l.length = n) := ⟨_, Lib.hid rfl⟩
  obtain ⟨vs, hV⟩ : ∃ vs : List Value, Hid (l.map (Value.int .i64) = vs) := ⟨_, Lib.hid rfl⟩
  obtain ⟨i0, hi, hz0, hz1, hz2⟩ := info_parts infoInt
  have q22 : ∀ (w : World) (a : Option Addr) (n c n' c' : Nat), (binOp .eql 22 (.slice a n c) (.slice none n' c')).run Tryd.prog w = .ok (.bool a.isNone) w := fun w a n c n' c' => Lib.run_eql_slice_nil w _ _ a n c n' c' Tryd.underlying22
  have hvl : vs.length = n := by rw [← hV.out, ← hN.out]; simp
  have hone : ∀ u ∈ vs, u.oneCell' = true := by rw [← hV.out]; intro u hu; obtain ⟨x, _, rfl⟩ := List.mem_map.1 hu; rfl
  have hcell : Hid (l = [] ∨ ∃ b off, a = some ⟨b, off, none⟩ ∧ ∀ j u, vs[j]? = some u → w.cell? ⟨b, off + j, none⟩ = some u) := by
    refine Lib.hid ?_
    rcases hr with hr | ⟨b, off, ha, _, _, hc⟩
    · exact .inl hr
    · refine .inr ⟨b, off, ha, fun j u hj => ?_⟩
      rw [← hV.out] at hj
      have hjn : j < l.length := by have := (List.getElem?_eq_some_iff.1 hj).1; simpa using this
      rw [hc j hjn, ← hj]
      simp [List.getD, hjn]
  clear hr
  rw [hN.out] at hb ⊢
  rw [hV.out]
  have HL := Lib.hid hvl
  have HO := Lib.hid hone
  clear hvl hone
  cases a with
  | none =>
    go_enter Tryd.func20, Tryd.ntmps20
    go_wp2
    go_ret
    have h0 : l = [] := by
      rcases hcell.out with h | ⟨b, off, ha, _⟩
      · exact h
      · cases ha
    subst h0
    have hn0 : n = 0 := by rw [← hN.out]; rfl
    subst hn0
    have : vs = [] := by rw [← hV.out]; rfl
    subst this
    exact ⟨_, rfl, World.ownsRow_nil _ _ _ _, Chg.refl _ _⟩
  | some x =>
    obtain ⟨b, off, sp⟩ := x
    go_enter Tryd.func20, Tryd.ntmps20
    go_wp2_with (at_builtin; refine wpList_append_own _ rfl _ _ 22 rfl w.heap.size 3 i0 (.int .i64 0) 1 8 Tryd.underlying22 hi hz0 hz1 hz2 rfl (by decide) _ _ _ rfl (World.ownsRow_made w #[] 0 (Nat.le_refl _) (Nat.zero_le _) rfl) ⟨b, off, sp⟩ n c vs rfl ?qc1 ?qc2 ?qc3 ?qc4 ?qc5 ?qc6 ?_)
    case qc1 => rw [HL.out]; simp
    case qc2 =>
      intro j u hj
      rcases hcell.out with h | ⟨b', off', ha, hc⟩
      · subst h
        have : vs = [] := by rw [← hV.out]; rfl
        subst this
        simp at hj
      · simp only [Option.some.injEq] at ha
        rw [ha, Addr.add_lit]
        exact Lib.cell?_alloc_some _ (hc j u hj)
    case qc3 => exact HO.out
    case qc4 => unfold maxLen; omega
    case qc5 => omega
    case qc6 => simp
    intro v' w1 hown hgrow hnil
    go_wp2
    go_ret
    refine ⟨v', rfl, by simpa using hown, ?_⟩
    refine ((Chg.refl _ w).alloc _).grown hgrow (fun k hk => .inr ?_)
    simp [Value.ownBlock] at hk; omega

end Go.Proofs.YtckgkgaoioigdaaDoor
