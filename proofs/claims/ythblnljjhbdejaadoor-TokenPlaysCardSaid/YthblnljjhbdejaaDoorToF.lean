/-
  The lock whose token goes from one to the next: a new one, in memory.
  Conditions: none beyond those of each lemma.
-/
import Derived.Test.YthblnljjhbdejaaDoorToE
namespace Go.Proofs.YthblnljjhbdejaaDoor
open Go Go.RowKit

theorem grid_succ (n k : Nat) (f : Nat → Nat → Value) (hk : 0 < k) : grid (n + 1) k f = grid n k f ++ (List.range k).map (f n) := by
  unfold grid
  rw [Nat.add_mul, Nat.one_mul, List.range_add, List.map_append]
  congr 1
  rw [List.map_map]
  apply List.map_congr_left
  intro j hj
  have hj := List.mem_range.1 hj
  show f ((n * k + j) / k) ((n * k + j) % k) = f n j
  have h1 : (n * k + j) / k = n := by
    rw [Nat.add_comm, Nat.add_mul_div_right _ _ hk, Nat.div_eq_of_lt hj]; omega
  have h2 : (n * k + j) % k = j := by
    rw [Nat.add_comm, Nat.add_mul_mod_self_right, Nat.mod_eq_of_lt hj]
  rw [h1, h2]

/-- Slices that are nil need no block. -/
theorem Mem.nils {ι : Type} [DecidableEq ι] {S : Nat → Prop} {w : World} {t : Nat} {top : List Value} {R : ι → Sl} {tag : Nat → Option (Option ι)} (h : Mem S w t top R tag) (R' : ι → Sl) (hR : ∀ i, R' i = R i ∨ ((R' i).v = .slice none 0 0 ∧ (R' i).n = 0 ∧ (R' i).xs = [])) : Mem S w t top R' tag where
  hS := h.hS
  ht := h.ht
  blk := h.blk
  row := fun i => by
    rcases hR i with e | ⟨e1, e2, e3⟩
    · rw [e]; exact h.row i
    · rw [e1, e2, e3]; exact World.ownsRow_nil _ _ _ _
  tg := fun i b hb => by
    rcases hR i with e | ⟨e1, e2, e3⟩
    · rw [e] at hb; exact h.tg i b hb
    · rw [e1] at hb; cases hb

def nilV : Ix → Value := fun _ => .slice none 0 0

theorem grid_congr {n k : Nat} {f f' : Nat → Nat → Value} (h : ∀ p c, p < n → c < k → f p c = f' p c) : grid n k f = grid n k f' := by
  unfold grid
  apply List.map_congr_left
  intro j hj
  have hj := List.mem_range.1 hj
  have hk : 0 < k := by
    rcases Nat.eq_zero_or_pos k with e | e
    · subst e; omega
    · exact e
  exact h _ _ (Nat.div_lt_of_lt_mul (by rw [Nat.mul_comm]; exact hj)) (Nat.mod_lt _ hk)

theorem TAt.first (w w1 : World) (n gV : Nat) (e : TypeId) (S : Nat → Prop) (hS : ∀ b, S b → b < gV) (hg : gV < w1.heap.size) (ho : w1.ownsRow 0 3 1 (.slice (some ⟨gV, 0, none⟩) n n) n ((List.range n).map fun _ => .int .i64 0)) :
    TAt S (w1.alloc (.cells #[.slice none 0 0, .int .i64 0, .int .i64 0, .slice (some ⟨gV, 0, none⟩) n n, .slice none 0 0, .slice none 0 0] e)) w1.heap.size (TNet.init n) 0 0 (upd nilV .served (.slice (some ⟨gV, 0, none⟩) n n)) (fun b => if b = w1.heap.size then some none else if b = gV then some (some .served) else none) where
  hS := fun b hb => by
    have := hS b hb
    exact ⟨by rw [if_neg (by omega), if_neg (by omega)], by simp; omega⟩
  ht := if_pos rfl
  blk := Blk.alloc w1 [.slice none 0 0, .int .i64 0, .int .i64 0, .slice (some ⟨gV, 0, none⟩) n n, .slice none 0 0, .slice none 0 0] e
  row := fun i => by
    cases i with
    | served => exact ((Chg.refl NoF w1).alloc _).row ho (fun _ _ hf => hf)
    | nodes => exact World.ownsRow_nil _ _ _ _
    | ways => exact World.ownsRow_nil _ _ _ _
    | queue => exact World.ownsRow_nil _ _ _ _
    | had p => exact World.ownsRow_nil _ _ _ _
    | row p => exact World.ownsRow_nil _ _ _ _
    | msg p q =>
      have : (TNet.init n).rows 0 0 (upd nilV .served (.slice (some ⟨gV, 0, none⟩) n n)) (.msg p q) = Sl.none := TNet.rowsM0 _ _ _ _ (by omega)
      rw [this]; exact World.ownsRow_nil _ _ _ _
  tg := fun i b hb => by
    cases i with
    | served =>
      obtain rfl : gV = b := by
        have hb : (Value.slice (some ⟨gV, 0, none⟩) n n).ownBlock = some b := hb
        simpa [Value.ownBlock] using hb
      rw [if_neg (by omega), if_pos rfl]
    | nodes => cases hb
    | ways => cases hb
    | queue => cases hb
    | had p => cases hb
    | row p => cases hb
    | msg p q =>
      have : (TNet.init n).rows 0 0 (upd nilV .served (.slice (some ⟨gV, 0, none⟩) n n)) (.msg p q) = Sl.none := TNet.rowsM0 _ _ _ _ (by omega)
      rw [this] at hb; cases hb

section
variable {S : Nat → Prop} {w w1 w2 : World} {t n : Nat} {k m : Nat} {V : Ix → Value} {tag : Nat → Option (Option Ix)}

/-- One node more. -/
def addN (V : Ix → Value) (k : Nat) (r v : Value) : Ix → Value
  | .nodes => v
  | .served => V .served
  | .queue => V .queue
  | .had p => if p = k then r else V (.had p)
  | .ways => V .ways
  | .row p => V (.row p)
  | .msg p q => V (.msg p q)

theorem TAt.addNode (h : TAt S w t (TNet.init n) k m V tag) (hc0 : Chg NoF w w1) (r : Value) (hr : w1.ownsRow 0 3 1 r n ((List.range n).map fun _ => .int .i64 0)) (hrb : ∀ b, r.ownBlock = some b → w.heap.size ≤ b)
    (hc : Chg (fun b => (V .nodes).ownBlock = some b) w1 w2) (v : Value) (ho : w2.ownsRow 0 51 3 v (k + 1) (grid k 3 ((TNet.init n).cell V) ++ [.bool false, .bool false, r]))
    (hb : ∀ b, v.ownBlock = some b → (V .nodes).ownBlock = some b ∨ w1.heap.size ≤ b) : ∃ tag', TAt S (w2.setCell ⟨t, 0, none⟩ v) t (TNet.init n) (k + 1) m (addN V k r v) tag' := by
  have eR : (TNet.init n).rows k m V (.had k) = Sl.none := TNet.rowsH0 _ _ _ _ (by omega)
  have h1 := Mem.newRow h (.had k) (w1 := w1) (by rw [eR]; exact hc0.mono fun _ _ => False.elim) 3 1 r n _ hr (fun b hb => .inr (hrb b hb))
  have h2 := h1.newRow .nodes (w1 := w2) (by rw [upd_ne _ _ (by simp)]; exact hc) 51 3 v (k + 1) _ ho (by rw [upd_ne _ _ (by simp)]; exact hb)
  have h3 := h2.setTop 0 v
  refine ⟨_, Mem.congr h3 rfl fun i => ?_⟩
  cases i with
  | nodes =>
    rw [upd_self]
    show _ = (⟨_, _, v, _, grid (k + 1) 3 ((TNet.init n).cell (addN V k r v))⟩ : Sl)
    rw [grid_succ _ _ _ (by omega), grid_congr (f := (TNet.init n).cell (addN V k r v)) (f' := (TNet.init n).cell V) (fun p c hp _ => by
      unfold TNet.cell
      show (if c = 0 then _ else if c = 1 then _ else (if p = k then r else V (.had p))) = _
      rw [if_neg (by omega : ¬ p = k)])]
    have : (List.range 3).map ((TNet.init n).cell (addN V k r v) k) = [.bool false, .bool false, r] := by
      show [Value.bool false, Value.bool false, if k = k then r else V (.had k)] = _
      rw [if_pos rfl]
    rw [this]
  | ways => rw [upd_ne _ _ (by simp), upd_ne _ _ (by simp)]; rfl
  | served => rw [upd_ne _ _ (by simp), upd_ne _ _ (by simp)]; rfl
  | queue => rw [upd_ne _ _ (by simp), upd_ne _ _ (by simp)]; rfl
  | had p =>
    by_cases e : p = k
    · subst e
      rw [upd_ne _ _ (by simp), upd_self, TNet.rowsH _ _ _ _ (by omega)]
      show _ = (⟨_, _, if p = p then r else V (.had p), _, _⟩ : Sl)
      rw [if_pos rfl]; rfl
    · rw [upd_ne _ _ (by simp), upd_ne _ _ (by simp [e])]
      show (if p < k then _ else _) = (if p < k + 1 then (⟨_, _, if p = k then r else V (.had p), _, _⟩ : Sl) else _)
      by_cases hp : p < k
      · rw [if_pos hp, if_pos (by omega), if_neg e]
      · rw [if_neg hp, if_neg (by omega)]
  | row p => rw [upd_ne _ _ (by simp), upd_ne _ _ (by simp)]; rfl
  | msg p q => rw [upd_ne _ _ (by simp), upd_ne _ _ (by simp)]; rfl

/-- One row of ways more. -/
def addV (V : Ix → Value) (m : Nat) (r v : Value) : Ix → Value
  | .nodes => V .nodes
  | .served => V .served
  | .queue => V .queue
  | .had p => V (.had p)
  | .ways => v
  | .row p => if p = m then r else V (.row p)
  | .msg p q => if p = m then .slice none 0 0 else V (.msg p q)

theorem cell_addV (s : TNet) (V : Ix → Value) (m : Nat) (r v : Value) : s.cell (addV V m r v) = s.cell V := rfl

theorem TAt.addRow (h : TAt S w t (TNet.init n) k m V tag) (hc0 : Chg NoF w w1) (r : Value) (hr : w1.ownsRow 0 29 1 r n (List.replicate n (.slice none 0 0))) (hrb : ∀ b, r.ownBlock = some b → w.heap.size ≤ b)
    (hc : Chg (fun b => (V .ways).ownBlock = some b) w1 w2) (v : Value) (ho : w2.ownsRow 0 22 1 v (m + 1) ((List.range m).map (fun p => V (.row p)) ++ [r]))
    (hb : ∀ b, v.ownBlock = some b → (V .ways).ownBlock = some b ∨ w1.heap.size ≤ b) : ∃ tag', TAt S (w2.setCell ⟨t, 5, none⟩ v) t (TNet.init n) k (m + 1) (addV V m r v) tag' := by
  have eR : (TNet.init n).rows k m V (.row m) = Sl.none := if_neg (by omega)
  have h1 := Mem.newRow h (.row m) (w1 := w1) (by rw [eR]; exact hc0.mono fun _ _ => False.elim) 29 1 r n _ hr (fun b hb => .inr (hrb b hb))
  have h2 := h1.newRow .ways (w1 := w2) (by rw [upd_ne _ _ (by simp)]; exact hc) 22 1 v (m + 1) _ ho (by rw [upd_ne _ _ (by simp)]; exact hb)
  have h3 := h2.setTop 5 v
  refine ⟨_, Mem.congr (h3.nils ((TNet.init n).rows k (m + 1) (addV V m r v)) fun i => ?_) rfl fun i => rfl⟩
  cases i with
  | nodes => left; rw [upd_ne _ _ (by simp), upd_ne _ _ (by simp)]; rfl
  | served => left; rw [upd_ne _ _ (by simp), upd_ne _ _ (by simp)]; rfl
  | queue => left; rw [upd_ne _ _ (by simp), upd_ne _ _ (by simp)]; rfl
  | had p => left; rw [upd_ne _ _ (by simp), upd_ne _ _ (by simp)]; rfl
  | ways =>
    left; rw [upd_self]
    show (⟨_, _, v, _, (List.range (m + 1)).map fun p => addV V m r v (.row p)⟩ : Sl) = _
    rw [List.range_succ, List.map_append]
    congr 2
    · apply List.map_congr_left
      intro p hp
      have := List.mem_range.1 hp
      exact if_neg (by omega)
    · show [if m = m then r else V (.row m)] = [r]
      rw [if_pos rfl]
  | row p =>
    by_cases e : p = m
    · subst e
      left
      rw [upd_ne _ _ (by simp), upd_self]
      rw [TNet.rowsR _ _ _ _ (by omega)]
      show (⟨_, _, if p = p then r else V (.row p), n, (List.range n).map fun q => if p = p then Value.slice none 0 0 else V (.msg p q)⟩ : Sl) = _
      rw [if_pos rfl]
      congr 1
      rw [List.map_congr_left (g := fun _ => Value.slice none 0 0) (fun q _ => if_pos rfl), List.map_const', List.length_range]
    · left
      rw [upd_ne _ _ (by simp), upd_ne _ _ (by simp [e])]
      show (if p < m + 1 then (⟨_, _, if p = m then r else V (.row p), _, (List.range n).map fun q => if p = m then Value.slice none 0 0 else V (.msg p q)⟩ : Sl) else _) = (if p < m then _ else _)
      by_cases hp : p < m
      · rw [if_pos (by omega), if_pos hp, if_neg e]
        congr 1
        exact List.map_congr_left fun q _ => if_neg e
      · rw [if_neg (by omega), if_neg hp]
  | msg p q =>
    by_cases e : p = m
    · subst e
      by_cases hq : q < n
      · right
        rw [TNet.rowsM _ _ _ _ (by omega) (show q < (TNet.init n).n from hq)]
        exact ⟨if_pos rfl, rfl, rfl⟩
      · right
        have : (TNet.init n).rows k (p + 1) (addV V p r v) (.msg p q) = Sl.none := TNet.rowsM0 _ _ _ _ (fun hh => hq hh.2)
        rw [this]; exact ⟨rfl, rfl, rfl⟩
    · left
      rw [upd_ne _ _ (by simp), upd_ne _ _ (by simp)]
      show (if p < m + 1 ∧ q < n then (⟨_, _, if p = m then Value.slice none 0 0 else V (.msg p q), _, _⟩ : Sl) else _) = (if p < m ∧ q < n then _ else _)
      by_cases hp : p < m ∧ q < n
      · rw [if_pos (by omega), if_pos hp, if_neg e]
      · rw [if_neg (by omega), if_neg hp]

end

end Go.Proofs.YthblnljjhbdejaaDoor
