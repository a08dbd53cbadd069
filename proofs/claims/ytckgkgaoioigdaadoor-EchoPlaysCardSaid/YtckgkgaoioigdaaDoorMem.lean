/-
  A thing in memory: one block of its own, and slices, each in a block of its own (or nil), told apart by marks; what stores and new slices do to it.
  Conditions: none beyond those of each lemma.
-/
import Derived.Test.YtckgkgaoioigdaaDoorLaws
import Derived.Test.YtckgkgaoioigdaaDoorInts
namespace Go.Proofs.YtckgkgaoioigdaaDoor
open Go Go.RowKit

/-- A slice: the type of its elements, how many cells each has, the value, how many elements, and the cells. -/
structure Sl where
  e : TypeId
  k : Nat
  v : Value
  n : Nat
  xs : List Value

def Sl.none : Sl := ⟨0, 0, .slice Option.none 0 0, 0, []⟩

def upd {ι α : Type} [DecidableEq ι] (R : ι → α) (i : ι) (x : α) : ι → α := fun j => if j = i then x else R j
theorem upd_self {ι α : Type} [DecidableEq ι] (R : ι → α) (i : ι) (x : α) : upd R i x i = x := by simp [upd]
theorem upd_ne {ι α : Type} [DecidableEq ι] (R : ι → α) {i j : ι} (x : α) (h : j ≠ i) : upd R i x j = R j := by simp [upd, h]

/-- The thing: its own block t, and its slices; S: blocks that are not its own. -/
structure Mem {ι : Type} [DecidableEq ι] (S : Nat → Prop) (w : World) (t : Nat) (top : List Value) (R : ι → Sl) (tag : Nat → Option (Option ι)) : Prop where
  hS : ∀ b, S b → tag b = none ∧ b < w.heap.size
  ht : tag t = some none
  blk : Blk w t top
  row : ∀ i, w.ownsRow 0 (R i).e (R i).k (R i).v (R i).n (R i).xs
  tg : ∀ i b, (R i).v.ownBlock = some b → tag b = some (some i)

section
variable {ι : Type} [DecidableEq ι] {S : Nat → Prop} {w w1 : World} {t : Nat} {top : List Value} {R : ι → Sl} {tag : Nat → Option (Option ι)}

theorem Mem.lt (h : Mem S w t top R tag) {i : ι} {b : Nat} (hb : (R i).v.ownBlock = some b) : b < w.heap.size := ((h.row i).lt b hb).2
theorem Mem.notS (h : Mem S w t top R tag) {i : ι} {b : Nat} (hb : (R i).v.ownBlock = some b) : ¬ S b := fun hs => by
  have h1 := (h.hS b hs).1; rw [h.tg i b hb] at h1; cases h1
theorem Mem.tNotS (h : Mem S w t top R tag) : ¬ S t := fun hs => by
  have h1 := (h.hS t hs).1; rw [h.ht] at h1; cases h1
theorem Mem.ne (h : Mem S w t top R tag) {i j : ι} (hij : i ≠ j) {b : Nat} (hb : (R i).v.ownBlock = some b) : ¬ (R j).v.ownBlock = some b := fun hf => by
  have h1 := h.tg i b hb; rw [h.tg j b hf] at h1; exact hij (by simpa using h1.symm)
theorem Mem.tne (h : Mem S w t top R tag) {i : ι} : ¬ (R i).v.ownBlock = some t := fun hf => by
  have h1 := h.tg i t hf; rw [h.ht] at h1; cases h1

theorem Mem.congr (h : Mem S w t top R tag) {R' : ι → Sl} {top' : List Value} (ht : top = top') (hR : ∀ i, R i = R' i) : Mem S w t top' R' tag := by
  have : R = R' := funext hR
  subst this; subst ht; exact h

theorem Mem.len (h : Mem S w t top R tag) (i : ι) {a : Option Addr} {n cap : Nat} (hv : (R i).v = .slice a n cap) : n = (R i).n := by
  obtain ⟨a', c', e⟩ := owns_val (h.row i)
  rw [hv] at e
  injection e

/-- What changes is not the thing's own. -/
theorem Mem.keep {F : Nat → Prop} (h : Mem S w t top R tag) (hc : Chg F w w1) (hF : ∀ b, F b → tag b = none) : Mem S w1 t top R tag where
  hS := fun b hb => ⟨(h.hS b hb).1, Nat.lt_of_lt_of_le (h.hS b hb).2 hc.size⟩
  ht := h.ht
  blk := h.blk.keep hc (fun hf => by have h1 := hF t hf; rw [h.ht] at h1; cases h1)
  row := fun i => hc.row (h.row i) (fun b hb hf => by have h1 := hF b hf; rw [h.tg i b hb] at h1; cases h1)
  tg := h.tg

theorem Mem.more (h : Mem S w t top R tag) (hc : Chg NoF w w1) : Mem S w1 t top R tag := h.keep hc (fun _ hf => hf.elim)

/-- What is stored into its own block. -/
theorem Mem.setTop (h : Mem S w t top R tag) (j : Nat) (u : Value) : Mem S (w.setCell ⟨t, j, none⟩ u) t (top.set j u) R tag where
  hS := fun b hb => ⟨(h.hS b hb).1, by simpa [World.setCell] using (h.hS b hb).2⟩
  ht := h.ht
  blk := h.blk.set j u
  row := fun i => (setCell_chg w ⟨t, j, none⟩ u).row (h.row i) (fun b hb hf => by
    have hf : b = t := hf
    subst hf; have h1 := h.tg i b hb; rw [h.ht] at h1; cases h1)
  tg := h.tg

/-- What is stored into a slice. -/
theorem Mem.setRow (h : Mem S w t top R tag) (i : ι) {g n cap : Nat} (hv : (R i).v = .slice (some ⟨g, 0, none⟩) n cap) (j : Nat) (u : Value) :
    Mem S (w.setCell ⟨g, j, none⟩ u) t top (upd R i { R i with xs := (R i).xs.set j u }) tag := by
  have hg : (R i).v.ownBlock = some g := by rw [hv]; rfl
  exact {
    hS := fun b hb => ⟨(h.hS b hb).1, by simpa [World.setCell] using (h.hS b hb).2⟩
    ht := h.ht
    blk := h.blk.keep (setCell_chg w ⟨g, j, none⟩ u) (fun hf => by
      have hf : t = g := hf
      subst hf; exact h.tne hg)
    row := fun k => by
      by_cases hk : k = i
      · subst hk
        rw [upd_self]
        have hr := h.row k
        rw [hv] at hr
        obtain rfl := h.len k hv
        have := (hr.stored j u).1
        simpa [hv] using this
      · rw [upd_ne _ _ hk]
        refine (setCell_chg w ⟨g, j, none⟩ u).row (h.row k) (fun b hb hf => ?_)
        have hf : b = g := hf
        subst hf; exact h.ne hk hb hg
    tg := fun k b hb => by
      by_cases hk : k = i
      · subst hk; rw [upd_self] at hb; exact h.tg k b hb
      · rw [upd_ne _ _ hk] at hb; exact h.tg k b hb }

/-- The mark of a slice's block, if it has one. -/
def mark {ι : Type} (tag : Nat → Option (Option ι)) (o : Option Nat) (i : ι) : Nat → Option (Option ι) := fun b => if o = some b then some (some i) else tag b

/-- A slice is another one: in the old block, or in a new one. -/
theorem Mem.newRow (h : Mem S w t top R tag) (i : ι) (hc : Chg (fun k => (R i).v.ownBlock = some k) w w1) (e k : Nat) (v : Value) (n : Nat) (xs : List Value) (ho : w1.ownsRow 0 e k v n xs)
    (hb : ∀ b, v.ownBlock = some b → (R i).v.ownBlock = some b ∨ w.heap.size ≤ b) : Mem S w1 t top (upd R i ⟨e, k, v, n, xs⟩) (mark tag v.ownBlock i) := by
  have old : ∀ b, b < w.heap.size → mark tag v.ownBlock i b = tag b := fun b hlt => by
    unfold mark; split
    · rename_i e1
      rcases hb b e1 with h1 | h1
      · exact (h.tg i b h1).symm
      · omega
    · rfl
  exact {
    hS := fun b hs => ⟨by rw [old b (h.hS b hs).2]; exact (h.hS b hs).1, Nat.lt_of_lt_of_le (h.hS b hs).2 hc.size⟩
    ht := by rw [old t h.blk.lt]; exact h.ht
    blk := h.blk.keep hc (fun hf => h.tne hf)
    row := fun j => by
      by_cases hj : j = i
      · subst hj; rw [upd_self]; exact ho
      · rw [upd_ne _ _ hj]
        exact hc.row (h.row j) (fun b hb1 hf => h.ne hj hb1 hf)
    tg := fun j b hb1 => by
      by_cases hj : j = i
      · subst hj; rw [upd_self] at hb1; simp only [mark]; rw [if_pos hb1]
      · rw [upd_ne _ _ hj] at hb1; rw [old b (h.lt hb1)]; exact h.tg j b hb1 }

/-- How a slice with an element looks. -/
theorem Mem.val (h : Mem S w t top R tag) (i : ι) (hn : 0 < (R i).n) : ∃ g cap, (R i).v = .slice (some ⟨g, 0, none⟩) (R i).n cap ∧ (R i).v.ownBlock = some g ∧ g < w.heap.size ∧ (R i).n ≤ cap ∧ cap ≤ maxLen := by
  have hr := h.row i
  rcases hr.2 with ⟨_, h0⟩ | ⟨g, cap, cur, hv, hb, hg, hc, hm, hs, ht⟩
  · omega
  · have hg : (R i).v.ownBlock = some g := by rw [hv]; rfl
    exact ⟨g, cap, hv, hg, h.lt hg, hc, hm⟩

theorem Mem.val0 (h : Mem S w t top R tag) (i : ι) : ∃ a c, (R i).v = .slice a (R i).n c := owns_val (h.row i)

theorem Mem.cell (h : Mem S w t top R tag) (i : ι) {g n cap : Nat} (hv : (R i).v = .slice (some ⟨g, 0, none⟩) n cap) (j : Nat) (hj : j < (R i).n * (R i).k) : w.cell? ⟨g, j, none⟩ = (R i).xs[j]? := by
  have hr := h.row i
  rw [hv] at hr
  obtain rfl := h.len i hv
  exact hr.cellAt j hj

theorem Mem.frozen (h : Mem S w t top R tag) (i : ι) {g n cap : Nat} (hv : (R i).v = .slice (some ⟨g, 0, none⟩) n cap) (j : Nat) : w.frozen? ⟨g, j, none⟩ = false := by
  have hr := h.row i
  rw [hv] at hr
  obtain rfl := h.len i hv
  exact hr.frozenAt j

/-- What is written is not of S. -/
theorem Mem.chgTop (h : Mem S w t top R tag) (j : Nat) (u : Value) : Chg (fun k => ¬ S k) w (w.setCell ⟨t, j, none⟩ u) := (Chg.refl _ w).setCell (.inl h.tNotS) _
theorem Mem.chgRow (h : Mem S w t top R tag) (i : ι) {g n cap : Nat} (hv : (R i).v = .slice (some ⟨g, 0, none⟩) n cap) (j : Nat) (u : Value) : Chg (fun k => ¬ S k) w (w.setCell ⟨g, j, none⟩ u) :=
  (Chg.refl _ w).setCell (.inl (h.notS (i := i) (by rw [hv]; rfl))) _
theorem Mem.chgNew (h : Mem S w t top R tag) (i : ι) (hc : Chg (fun k => (R i).v.ownBlock = some k) w w1) : Chg (fun k => ¬ S k) w w1 := hc.mono fun _ _ hk => h.notS hk

end

/-- Rows of structs: cell j is field j % k of element j / k. -/
def grid (n k : Nat) (f : Nat → Nat → Value) : List Value := (List.range (n * k)).map fun j => f (j / k) (j % k)

theorem grid_length (n k : Nat) (f : Nat → Nat → Value) : (grid n k f).length = n * k := by simp [grid]

theorem grid_get (n k : Nat) (f : Nat → Nat → Value) {p c : Nat} (hp : p < n) (hc : c < k) : (grid n k f)[p * k + c]? = some (f p c) := by
  have hlt : p * k + c < n * k := by
    have := Nat.mul_le_mul_right k (show p + 1 ≤ n by omega)
    rw [Nat.add_mul] at this; omega
  have h1 : (p * k + c) / k = p := by
    rw [Nat.add_comm, Nat.add_mul_div_right _ _ (by omega), Nat.div_eq_of_lt hc]; omega
  have h2 : (p * k + c) % k = c := by
    rw [Nat.add_comm, Nat.add_mul_mod_self_right, Nat.mod_eq_of_lt hc]
  simp [grid, hlt, h1, h2]

theorem grid_set (n k : Nat) (f : Nat → Nat → Value) {p c : Nat} (hp : p < n) (hc : c < k) (u : Value) (f' : Nat → Nat → Value) (h0 : f' p c = u) (h1 : ∀ q d, d < k → (q ≠ p ∨ d ≠ c) → f' q d = f q d) : (grid n k f).set (p * k + c) u = grid n k f' := by
  have hlt : p * k + c < n * k := by
    have := Nat.mul_le_mul_right k (show p + 1 ≤ n by omega)
    rw [Nat.add_mul] at this; omega
  unfold grid
  rw [map_range_set _ _ _ _ hlt]
  apply List.map_congr_left
  intro j hj
  have e1 : (p * k + c) / k = p := by
    rw [Nat.add_comm, Nat.add_mul_div_right _ _ (by omega), Nat.div_eq_of_lt hc]; omega
  have e2 : (p * k + c) % k = c := by
    rw [Nat.add_comm, Nat.add_mul_mod_self_right, Nat.mod_eq_of_lt hc]
  split
  · rename_i e; subst e; rw [e1, e2, h0]
  · rename_i e
    refine (h1 _ _ (Nat.mod_lt _ (by omega)) ?_).symm
    refine Classical.byContradiction fun hn => e ?_
    have ha : j / k = p := Classical.byContradiction fun h => hn (.inl h)
    have hb : j % k = c := Classical.byContradiction fun h => hn (.inr h)
    have := Nat.div_add_mod j k
    rw [ha, hb, Nat.mul_comm] at this
    exact this.symm

end Go.Proofs.YtckgkgaoioigdaaDoor
