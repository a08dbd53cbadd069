/-
  A loud operation of a plan that is passed by, since its guard says no.
  Conditions: none.
-/
import Derived.Test.YthblnljjhbdejaaDoorRegion
namespace Go.Proofs.YthblnljjhbdejaaDoor
open Go Go.RowKit

theorem wpPlan_loudN {P : Program} {ops : Array Oper} {Q : Exit → Act → World → Prop} {S : World → Prop} {L : Nat} {i : Nat} {pl : List (Nat × Oper × Bool)} {a : Act} {w : World} {oi : Oper} (hg : Region.wanted oi (yielded ops a.tmps) = false)
    (hS : S w) (h : wpPlanL P ops Q S L pl (a.put oi.dst undef) w) : wpPlanL P ops Q S L ((i, oi, false) :: pl) a w := by
  simp only [wpPlanL]
  rw [if_neg (by simp [hg])]
  exact ⟨fun _ => hS, h⟩

end Go.Proofs.YthblnljjhbdejaaDoor
