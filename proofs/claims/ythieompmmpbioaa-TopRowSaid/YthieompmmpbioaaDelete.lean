/-
  slices.Delete at a list of integers, off the shelf's contract.
  Conditions: those of the shelf's contract.
-/
import Derived.Shelf.SlicesG.Delete
import Derived.Lib.OwnBridge
import Derived.Test.YthieompmmpbioaaInts
import Derived.Test.YthieompmmpbioaaClone
namespace Go.Proofs.Ythieompmmpbioaa
open Go Go.RowKit

def delF : Nat → Nat := fun x => if x = 45 then 27 else 0
def delT : Nat → Nat := fun x => if x = 0 then 0 else if x = 3 then 3 else if x = 4 then 4 else if x = 22 then 30 else if x = 23 then 3 else 0
def delRen : Go.Shelf.Ren := ⟨delF, delT, fun x => x⟩

theorem delLays : Go.Proofs.SlLaysN.n45 Try.prog delRen where
  mixed := mixed
  f45 := ⟨Try.f27.name, by kernel_rfl, by kernel_rfl⟩
  t0 := by kernel_rfl
  a0 := fun w => by kernel_rfl
  z0 := fun w => by kernel_rfl
  v0 := fun w => by kernel_rfl
  t3 := by kernel_rfl
  a3 := fun w => by kernel_rfl
  z3 := fun w => by kernel_rfl
  v3 := fun w => by kernel_rfl
  t4 := by kernel_rfl
  a4 := fun w => by kernel_rfl
  z4 := fun w => by kernel_rfl
  v4 := fun w => by kernel_rfl
  t22 := by kernel_rfl
  a22 := fun w => by kernel_rfl
  z22 := fun w => by kernel_rfl
  v22 := fun w => by kernel_rfl
  t23 := by kernel_rfl
  a23 := fun w => by kernel_rfl
  z23 := fun w => by kernel_rfl
  v23 := fun w => by kernel_rfl
  i23 := by kernel_rfl

def DelPost (w : World) (v : Value) (l : List Int) (e : Ending) (w' : World) : Prop := ∃ g cap, v = .slice (some ⟨g, 0, none⟩) (l.length + 1) cap ∧ e = .returned (.slice (some ⟨g, 0, none⟩) l.length cap) ∧
  w'.ownsRow 0 3 1 (.slice (some ⟨g, 0, none⟩) l.length cap) l.length (l.map (.int .i64)) ∧ Chg (fun b => b = g) w w'

/-- The first one is struck. -/
theorem delete_any (w : World) (v : Value) (x : Int) (l : List Int) (h : w.ownsRow 0 3 1 v (l.length + 1) ((x :: l).map (.int .i64))) :
    Calls Try.prog 27 #[v, .int .i64 0, .int .i64 1] w (DelPost w v l) := by
  obtain ⟨g, cap, rfl, _, hg, hcap, hm, _, hh⟩ := Go.Lib.holds_of_ownsRow (enc := Value.int .i64) (zs := x :: l) h (by intro e; obtain ⟨a, c, e2⟩ := owns_val h; rw [e] at e2; injection e2 with _ e3; omega)
  have hc := Go.Proofs.AnyG.slices_Delete_int delLays g 0 cap 0 1 (x :: l) w hh (by simpa using hcap) (by have : maxLen = 9223372036854775807 := rfl; omega) (by omega) (by simp)
  have e1 : (x :: l).length = l.length + 1 := rfl
  rw [e1] at hc
  refine Calls.mono (show Calls Try.prog 27 #[.slice (some ⟨g, 0, none⟩) (l.length + 1) cap, .int .i64 0, .int .i64 1] w _ from hc) ?_
  rintro e w' ⟨rfl, q, rfl⟩
  refine ⟨g, cap, rfl, by simp, ?_, ?_⟩
  · have := Go.Lib.ownsRow_putRow (enc := Value.int .i64) (q := q) (k := l.length) (zs := x :: l) (ys := l ++ [0]) h (by simp) (by omega)
    simpa using this
  · refine ⟨rfl, rfl, rfl, by simp [Go.Sort.putRow, Go.Sort.mapBlock, Go.Sort.ahead], fun k _ hn => ?_⟩
    have : g ≠ k := fun e => hn e.symm
    simp [Go.Sort.putRow, Go.Sort.mapBlock, Go.Sort.ahead, Array.getElem?_modify, this]

end Go.Proofs.Ythieompmmpbioaa
