/-
  A thing in memory, and blocks beside it: new ones may be counted among those that are not its own.
  Conditions: none beyond those of each lemma.
-/
import Derived.Test.YtckgkgaoioigdaaDoorMem
namespace Go.Proofs.YtckgkgaoioigdaaDoor
open Go Go.RowKit

/-- S, and what is new in w1. -/
def Plus (S : Nat → Prop) (w w1 : World) : Nat → Prop := fun b => S b ∨ (w.heap.size ≤ b ∧ b < w1.heap.size)
/-- S, and all that w had not. -/
def More (S : Nat → Prop) (w : World) : Nat → Prop := fun b => S b ∨ w.heap.size ≤ b

section
variable {ι : Type} [DecidableEq ι] {S F : Nat → Prop} {w w1 : World} {t : Nat} {top : List Value} {R : ι → Sl} {tag : Nat → Option (Option ι)}

theorem Mem.other (h : Mem S w t top R tag) (hc : Chg F w w1) (hF : ∀ b, b < w.heap.size → F b → S b) : Mem S w1 t top R tag :=
  h.keep (F := S) (hc.mono hF) fun b hb => (h.hS b hb).1

theorem Mem.adopt (h : Mem S w t top R tag) (hc : Chg F w w1) (hF : ∀ b, b < w.heap.size → F b → S b) : ∃ tag', Mem (Plus S w w1) w1 t top R tag' := by
  have h1 := h.other hc hF
  have ht := h.blk.lt
  exact ⟨fun b => if b < w.heap.size then tag b else none, {
    hS := fun b hb => by
      rcases hb with hb | ⟨hb1, hb2⟩
      · have := h.hS b hb
        exact ⟨by rw [if_pos this.2]; exact this.1, (h1.hS b hb).2⟩
      · exact ⟨by rw [if_neg (by omega)], hb2⟩
    ht := by rw [if_pos ht]; exact h.ht
    blk := h1.blk
    row := h1.row
    tg := fun i b hb => by rw [if_pos (h.lt hb)]; exact h.tg i b hb }⟩

theorem Mem.mono {S' : Nat → Prop} (h : Mem S w t top R tag) (hS : ∀ b, S' b → S b) : Mem S' w t top R tag :=
  ⟨fun b hb => h.hS b (hS b hb), h.ht, h.blk, h.row, h.tg⟩
end

end Go.Proofs.YtckgkgaoioigdaaDoor
