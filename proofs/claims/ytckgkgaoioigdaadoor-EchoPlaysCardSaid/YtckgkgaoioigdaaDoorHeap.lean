/-
  What changes in a world, and what stays: a world that is as it was but for some blocks and new ones; rows of cells that are owned, each in a block with a mark of its own.
  Conditions: none beyond those of each lemma.
-/
import Derived.Deep.AppendLies
import Derived.WalkKit
import Derived.Lib.Hide
import Derived.Deep.Draws
namespace Go.Proofs.YtckgkgaoioigdaaDoor
open Go Go.RowKit

/-- w' is w, but for the blocks in F, and new ones. -/
structure Chg (F : Nat → Prop) (w w' : World) : Prop where
  os : w'.os = w.os
  tape : w'.tape = w.tape
  output : w'.output = w.output
  size : w.heap.size ≤ w'.heap.size
  block : ∀ k, k < w.heap.size → ¬ F k → w'.heap[k]? = w.heap[k]?

def NoF : Nat → Prop := fun _ => False

/-- The blocks that w had not. -/
def NewB (w : World) : Nat → Prop := fun k => ¬ k < w.heap.size

theorem Chg.refl (F : Nat → Prop) (w : World) : Chg F w w := ⟨rfl, rfl, rfl, Nat.le_refl _, fun _ _ _ => rfl⟩
theorem Chg.trans {F : Nat → Prop} {a b c : World} (h : Chg F a b) (k : Chg F b c) : Chg F a c :=
  ⟨k.os.trans h.os, k.tape.trans h.tape, k.output.trans h.output, Nat.le_trans h.size k.size, fun i hi hn => (k.block i (Nat.lt_of_lt_of_le hi h.size) hn).trans (h.block i hi hn)⟩
theorem Chg.mono {F G : Nat → Prop} {a b : World} (h : Chg F a b) (hFG : ∀ k, k < a.heap.size → F k → G k) : Chg G a b :=
  ⟨h.os, h.tape, h.output, h.size, fun i hi hn => h.block i hi (fun hf => hn (hFG i hi hf))⟩
theorem Chg.ofNo {F : Nat → Prop} {a b : World} (h : Chg NoF a b) : Chg F a b := h.mono fun _ _ => False.elim
theorem Chg.drew {F : Nat → Prop} {a b : World} (h : Chg F a b) : Chg F a b.drew := ⟨h.os, h.tape, h.output, h.size, h.block⟩
theorem Chg.drewN {F : Nat → Prop} {a b : World} (h : Chg F a b) (n : Nat) : Chg F a (b.drewN n) := ⟨h.os, h.tape, h.output, h.size, h.block⟩
theorem Chg.alloc {F : Nat → Prop} {a b : World} (h : Chg F a b) (o : Obj) : Chg F a (b.alloc o) :=
  h.trans ⟨rfl, rfl, rfl, by simp, fun k hk _ => Below.heap_alloc _ _ _ hk⟩
theorem Chg.setCell {F : Nat → Prop} {a b : World} (h : Chg F a b) {p : Addr} (hp : F p.block ∨ a.heap.size ≤ p.block) (u : Value) : Chg F a (b.setCell p u) :=
  ⟨h.os, h.tape, h.output, by simpa [World.setCell] using h.size, fun k hk hn => by
    rw [Below.heap_setCell _ _ _ _ (fun e => by subst e; rcases hp with hp | hp; exact hn hp; omega)]; exact h.block k hk hn⟩
theorem Chg.grown {F : Nat → Prop} {a b c : World} {row : Option Nat} (h : Chg F a b) (hg : b.grownBy c row) (hr : ∀ k, row = some k → F k ∨ a.heap.size ≤ k) : Chg F a c :=
  ⟨hg.os.trans h.os, hg.tape.trans h.tape, hg.output.trans h.output, Nat.le_trans h.size hg.size, fun k hk hn => by
    rw [hg.block k (Nat.lt_of_lt_of_le hk h.size) (fun e => by rcases hr k e.symm with h1 | h1; exact hn h1; omega)]; exact h.block k hk hn⟩
theorem Chg.below {F : Nat → Prop} {a b : World} (h : Chg F a b) {B : Nat} (hB : B ≤ a.heap.size) (hF : ∀ k, k < B → ¬ F k) : Below B a b :=
  ⟨h.os, h.tape, h.output, h.size, fun k hk => h.block k (by omega) (hF k hk)⟩
theorem Chg.ofBelow {a b : World} {B : Nat} (h : Below B a b) : Chg (fun k => B ≤ k) a b :=
  ⟨h.os, h.tape, h.output, h.size, fun k _ hn => h.block k (by omega)⟩
theorem Chg.ofBelow' {a b : World} (h : Below a.heap.size a b) : Chg NoF a b :=
  ⟨h.os, h.tape, h.output, h.size, fun k hk _ => h.block k hk⟩
theorem Chg.cell {F : Nat → Prop} {a b : World} (h : Chg F a b) {p : Addr} (hp : p.block < a.heap.size) (hn : ¬ F p.block) : b.cell? p = a.cell? p :=
  World.cell?_of_block (h.block _ hp hn)
theorem Chg.cell_some {F : Nat → Prop} {a b : World} (h : Chg F a b) {p : Addr} {v : Value} (hv : a.cell? p = some v) (hn : ¬ F p.block) : b.cell? p = some v := by
  rw [h.cell (World.block_lt_of_cell? a p hv) hn]; exact hv
theorem Chg.grownBy {a b : World} {row : Option Nat} (h : a.grownBy b row) : Chg (fun k => row = some k) a b :=
  ⟨h.os, h.tape, h.output, h.size, fun k hk hn => h.block k hk (fun e => hn e.symm)⟩
theorem Chg.row {F : Nat → Prop} {a b : World} (h : Chg F a b) {base e size n : Nat} {v : Value} {xs : List Value} (ho : a.ownsRow base e size v n xs) (hn : ∀ k, v.ownBlock = some k → ¬ F k) : b.ownsRow base e size v n xs := by
  obtain ⟨h1, h2⟩ := ho
  refine ⟨h1, ?_⟩
  rcases h2 with h2 | ⟨g, cap, cur, hv, hb, hg, hr⟩
  · exact .inl h2
  · refine .inr ⟨g, cap, cur, hv, hb, ?_, hr⟩
    have hlt : g < a.heap.size := by
      rcases Nat.lt_or_ge g a.heap.size with h' | h'
      · exact h'
      · rw [Array.getElem?_eq_none h'] at hg; cases hg
    rw [h.block g hlt (hn g (by rw [hv]; rfl))]; exact hg

/-- A block whose cells are known, and which is not frozen. -/
def Blk (w : World) (b : Nat) (cs : List Value) : Prop := ∃ e, w.heap[b]? = some (.cells cs.toArray e (0, 0))

theorem Blk.lt {w : World} {b : Nat} {cs : List Value} (h : Blk w b cs) : b < w.heap.size := by
  obtain ⟨e, h⟩ := h
  rcases Nat.lt_or_ge b w.heap.size with h' | h'
  · exact h'
  · rw [Array.getElem?_eq_none h'] at h; cases h
theorem Blk.cell {w : World} {b : Nat} {cs : List Value} (h : Blk w b cs) (i : Nat) : w.cell? ⟨b, i, none⟩ = cs[i]? := by
  obtain ⟨e, h⟩ := h
  simp [World.cell?, h]
theorem Blk.frozen {w : World} {b : Nat} {cs : List Value} (h : Blk w b cs) (i : Nat) : w.frozen? ⟨b, i, none⟩ = false := by
  obtain ⟨e, h⟩ := h
  simp [World.frozen?, h]
theorem Blk.keep {F : Nat → Prop} {w w' : World} {b : Nat} {cs : List Value} (h : Blk w b cs) (hc : Chg F w w') (hn : ¬ F b) : Blk w' b cs := by
  have := h.lt
  obtain ⟨e, h⟩ := h
  exact ⟨e, by rw [hc.block b this hn]; exact h⟩
theorem Blk.set {w : World} {b : Nat} {cs : List Value} (h : Blk w b cs) (i : Nat) (u : Value) : Blk (w.setCell ⟨b, i, none⟩ u) b (cs.set i u) := by
  have := h.lt
  obtain ⟨e, h⟩ := h
  refine ⟨e, ?_⟩
  simp [World.setCell, Array.getElem?_modify, h]
theorem Blk.alloc (w : World) (cs : List Value) (e : TypeId) : Blk (w.alloc (.cells cs.toArray e)) w.heap.size cs := ⟨e, by show (w.heap.push _)[w.heap.size]? = _; simp⟩

theorem setCell_chg (w : World) (a : Addr) (u : Value) : Chg (fun k => k = a.block) w (w.setCell a u) :=
  (Chg.refl (fun k => k = a.block) w).setCell (p := a) (.inl rfl) u

/-- A slice that is owned: n elements of type e, of k cells each, in a block with the mark r (or nil, and empty). -/
structure Own (w : World) (tag : Nat → Nat) (r : Nat) (e k : Nat) (v : Value) (n : Nat) (xs : List Value) : Prop where
  row : w.ownsRow 0 e k v n xs
  tag : ∀ b, v.ownBlock = some b → tag b = r

theorem Own.keep {F : Nat → Prop} {w w' : World} {tag tag' : Nat → Nat} {r e k n : Nat} {v : Value} {xs : List Value} (h : Own w tag r e k v n xs) (hc : Chg F w w')
    (hn : ∀ b, F b → tag b ≠ r) (ht : ∀ b, b < w.heap.size → tag' b = tag b) : Own w' tag' r e k v n xs :=
  ⟨hc.row h.row (fun b hb hf => hn b hf (h.tag b hb)), fun b hb => by rw [ht b (h.row.lt b hb).2]; exact h.tag b hb⟩

theorem Own.lt {w : World} {tag : Nat → Nat} {r e k n : Nat} {v : Value} {xs : List Value} (h : Own w tag r e k v n xs) : ∀ b, v.ownBlock = some b → b < w.heap.size := fun b hb => (h.row.lt b hb).2

/-- What it looks like. -/
theorem Own.form {w : World} {tag : Nat → Nat} {r e k n : Nat} {v : Value} {xs : List Value} (h : Own w tag r e k v n xs) :
    (v = .slice none 0 0 ∧ n = 0 ∧ xs = []) ∨ ∃ g cap, v = .slice (some ⟨g, 0, none⟩) n cap ∧ tag g = r ∧ g < w.heap.size ∧ n ≤ cap ∧ cap ≤ maxLen ∧ xs.length = n * k ∧
      (∀ j, j < n * k → w.cell? ⟨g, j, none⟩ = xs[j]?) ∧ (∀ j, w.frozen? ⟨g, j, none⟩ = false) := by
  have hr := h.row
  obtain ⟨h1, h2⟩ := h.row
  rcases h2 with ⟨hv, hn⟩ | ⟨g, cap, cur, hv, hb, hg, hc, hm, hs, ht⟩
  · subst hn; exact .inl ⟨hv, rfl, by simpa using h1⟩
  · subst hv
    exact .inr ⟨g, cap, rfl, h.tag g rfl, (hr.lt g rfl).2, hc, hm, h1, fun j hj => hr.cellAt j hj, fun j => hr.frozenAt j⟩

/-- The same where there is at least one element. -/
theorem Own.form' {w : World} {tag : Nat → Nat} {r e k n : Nat} {v : Value} {xs : List Value} (h : Own w tag r e k v n xs) (hn : 0 < n) :
    ∃ g cap, v = .slice (some ⟨g, 0, none⟩) n cap ∧ tag g = r ∧ g < w.heap.size ∧ n ≤ cap ∧ cap ≤ maxLen ∧ xs.length = n * k ∧
      (∀ j, j < n * k → w.cell? ⟨g, j, none⟩ = xs[j]?) ∧ (∀ j, w.frozen? ⟨g, j, none⟩ = false) := by
  rcases h.form with ⟨_, h0, _⟩ | h
  · omega
  · exact h

/-- A store into it. -/
theorem Own.stored {w : World} {tag : Nat → Nat} {r e k n g cap : Nat} {xs : List Value} (h : Own w tag r e k (.slice (some ⟨g, 0, none⟩) n cap) n xs) (j : Nat) (u : Value) :
    Own (w.setCell ⟨g, j, none⟩ u) tag r e k (.slice (some ⟨g, 0, none⟩) n cap) n (xs.set j u) :=
  ⟨(h.row.stored j u).1, h.tag⟩

theorem Own.nil (w : World) (tag : Nat → Nat) (r e k : Nat) : Own w tag r e k (.slice none 0 0) 0 [] := ⟨World.ownsRow_nil _ _ _ _, fun b hb => by cases hb⟩

/-- A new mark on one block. -/
def retag (tag : Nat → Nat) (g r : Nat) : Nat → Nat := fun b => if b = g then r else tag b
theorem retag_self (tag : Nat → Nat) (g r : Nat) : retag tag g r g = r := by simp [retag]
theorem retag_ne (tag : Nat → Nat) {g r b : Nat} (h : b ≠ g) : retag tag g r b = tag b := by simp [retag, h]
theorem retag_old (tag : Nat → Nat) {g r b : Nat} (h : tag g = r) : retag tag g r b = tag b := by
  unfold retag; split
  · rename_i e; rw [e, h]
  · rfl

theorem owns_zero {w : World} {base e k n : Nat} {v : Value} {xs : List Value} (h : w.ownsRow base e k v n xs) : w.ownsRow 0 e k v n xs := by
  obtain ⟨h1, h2⟩ := h
  refine ⟨h1, ?_⟩
  rcases h2 with h2 | ⟨g, cap, cur, hv, hb, hr⟩
  · exact .inl h2
  · exact .inr ⟨g, cap, cur, hv, Nat.zero_le _, hr⟩

theorem owns_val {w : World} {base e k n : Nat} {v : Value} {xs : List Value} (h : w.ownsRow base e k v n xs) : ∃ a c, v = .slice a n c := by
  rcases h.2 with ⟨hv, hn⟩ | ⟨g, cap, cur, hv, _⟩
  · subst hn; exact ⟨_, _, hv⟩
  · exact ⟨_, _, hv⟩

/-- Where s[1:] begins, of a row's head. -/
theorem tail_off (g k cap m : Nat) (hcap : m + 1 ≤ cap) : ∃ off, (if cap = 1 then (some ⟨g, 0, none⟩ : Option Addr) else some ⟨g, k, none⟩) = some ⟨g, off, none⟩ ∧ (0 < m → off = k) := by
  by_cases h : cap = 1
  · exact ⟨0, by rw [if_pos h], fun h2 => by omega⟩
  · exact ⟨k, by rw [if_neg h], fun _ => rfl⟩

/-- The mark of a value's block, if it has one. -/
def retagO (tag : Nat → Nat) (o : Option Nat) (r : Nat) : Nat → Nat := fun b => if o = some b then r else tag b
theorem retagO_ne {tag : Nat → Nat} {o : Option Nat} {r b : Nat} (h : o ≠ some b) : retagO tag o r b = tag b := by simp [retagO, h]
/-- A value whose block is the old one or a new one: nothing old has another mark. -/
theorem retagO_old {tag : Nat → Nat} {o o' : Option Nat} {r b H : Nat} (ho : ∀ k, o' = some k → o = some k ∨ H ≤ k) (ht : ∀ k, o = some k → tag k = r) (hb : b < H) : retagO tag o' r b = tag b := by
  unfold retagO; split
  · rename_i e
    rcases ho b e with h | h
    · exact (ht b h).symm
    · omega
  · rfl

/-- What is owned behind an append: the new value, with the old mark. -/
theorem Own.after {w : World} {tag : Nat → Nat} {r e k n : Nat} {v : Value} {xs : List Value} (h : w.ownsRow 0 e k v n xs) : Own w (retagO tag v.ownBlock r) r e k v n xs :=
  ⟨h, fun b hb => by simp [retagO, hb]⟩

theorem map_range_set {α : Type} (M : Nat → α) (n i : Nat) (v : α) (_hi : i < n) : ((List.range n).map M).set i v = (List.range n).map (fun j => if j = i then v else M j) := by
  apply List.ext_getElem?
  intro j
  rw [List.getElem?_set]
  by_cases hj : j < n
  · by_cases hji : i = j
    · subst hji; simp [hj]
    · simp [hj, hji, Ne.symm hji]
  · by_cases hji : i = j
    · omega
    · simp [hji, Nat.not_lt.1 hj]

end Go.Proofs.YtckgkgaoioigdaaDoor
