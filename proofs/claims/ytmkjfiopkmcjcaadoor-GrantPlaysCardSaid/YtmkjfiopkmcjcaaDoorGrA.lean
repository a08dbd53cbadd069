/-
  The lock for which one asks all others: how it lies in memory, and what its methods do to it.
  Conditions: a net as New made it; fewer than 1000000 messages on each way.
-/
import Derived.Test.YtmkjfiopkmcjcaaDoorGrMath3
import Derived.Test.YtmkjfiopkmcjcaaDoorMem
import Derived.Test.YtmkjfiopkmcjcaaDoorRegion2
import Derived.Test.YtmkjfiopkmcjcaaDoorGrSame
namespace Go.Proofs.YtmkjfiopkmcjcaaDoor
open Go Go.RowKit

inductive Ix where
  | nodes
  | ways
  | row (p : Nat)
  | msg (p q : Nat)
  deriving DecidableEq

def GNet.cell (s : GNet) (p c : Nat) : Value := .int .i64 (if c = 0 then s.st p else if c = 1 then s.ck p else if c = 2 then s.tm p else if c = 3 then (s.gr p : Int) else (s.wt p : Int))
def GNet.top (_s : GNet) (V : Ix → Value) : List Value := [V .nodes, V .ways]
/-- The net's slices: k nodes, and m rows of ways. -/
def GNet.rows (s : GNet) (k m : Nat) (V : Ix → Value) : Ix → Sl
  | .nodes => ⟨56, 5, V .nodes, k, grid k 5 s.cell⟩
  | .ways => ⟨46, 1, V .ways, m, (List.range m).map fun p => V (.row p)⟩
  | .row p => if p < m then ⟨63, 1, V (.row p), s.n, (List.range s.n).map fun q => V (.msg p q)⟩ else Sl.none
  | .msg p q => if p < m ∧ q < s.n then ⟨58, 1, V (.msg p q), (s.ways p q).length, (s.ways p q).map (.int .i64)⟩ else Sl.none

def GAt (S : Nat → Prop) (w : World) (t : Nat) (s : GNet) (k m : Nat) (V : Ix → Value) (tag : Nat → Option (Option Ix)) : Prop := Mem S w t (s.top V) (s.rows k m V) tag
/-- g: where the nodes lie. -/
def GIn (S : Nat → Prop) (w : World) (t g : Nat) (s : GNet) : Prop := ∃ V tag, (∃ cap, V .nodes = .slice (some ⟨g, 0, none⟩) s.n cap) ∧ GAt S w t s s.n s.n V tag

section
variable {S : Nat → Prop} {w w1 : World} {t : Nat} {s : GNet} {k m : Nat} {V : Ix → Value} {tag : Nat → Option (Option Ix)}

theorem GNet.rowsR (s : GNet) (k m : Nat) (V : Ix → Value) {p : Nat} (hp : p < m) : s.rows k m V (.row p) = ⟨63, 1, V (.row p), s.n, (List.range s.n).map fun q => V (.msg p q)⟩ := if_pos hp
theorem GNet.rowsM (s : GNet) (k m : Nat) (V : Ix → Value) {p q : Nat} (hp : p < m) (hq : q < s.n) : s.rows k m V (.msg p q) = ⟨58, 1, V (.msg p q), (s.ways p q).length, (s.ways p q).map (.int .i64)⟩ := if_pos ⟨hp, hq⟩

theorem GNet.rowsM0 (s : GNet) (k m : Nat) (V : Ix → Value) {p q : Nat} (h : ¬ (p < m ∧ q < s.n)) : s.rows k m V (.msg p q) = Sl.none := if_neg h

/-- A field of a node. -/
theorem GAt.node (h : GAt S w t s k m V tag) (hk : 0 < k) : ∃ g cap, V .nodes = .slice (some ⟨g, 0, none⟩) k cap ∧ k ≤ cap ∧ g ≠ t ∧ (∀ p c, p < k → c < 5 → w.cell? ⟨g, p * 5 + c, none⟩ = some (s.cell p c)) ∧ ∀ j, w.frozen? ⟨g, j, none⟩ = false := by
  obtain ⟨g, cap, hv, hg, hlt, hc, _⟩ := h.val .nodes hk
  refine ⟨g, cap, hv, hc, fun e => ?_, fun p c hp hc => ?_, h.frozen .nodes hv⟩
  · subst e; exact h.tne hg
  · rw [h.cell .nodes hv _ (by show p * 5 + c < k * 5; omega)]
    exact grid_get k 5 s.cell hp hc

/-- The ways of a node, and one of them. -/
theorem GAt.way (h : GAt S w t s k m V tag) {p q : Nat} (hp : p < m) (hq : q < s.n) : ∃ g cap g' cap', V .ways = .slice (some ⟨g, 0, none⟩) m cap ∧ V (.row p) = .slice (some ⟨g', 0, none⟩) s.n cap' ∧
    w.cell? ⟨g, p, none⟩ = some (.slice (some ⟨g', 0, none⟩) s.n cap') ∧ w.cell? ⟨g', q, none⟩ = some (V (.msg p q)) ∧ (∀ j, w.frozen? ⟨g', j, none⟩ = false) ∧ g < w.heap.size ∧ g' < w.heap.size := by
  obtain ⟨g, cap, hv, _, hlt, _⟩ := h.val .ways (show 0 < m by omega)
  obtain ⟨g', cap', hv', _, hlt', _⟩ := h.val (.row p) (show 0 < (s.rows k m V (.row p)).n by rw [s.rowsR k m V hp]; show 0 < s.n; omega)
  have e1 := h.cell .ways hv p (by show p < m * 1; omega)
  have e2 := h.cell (.row p) hv' q (by rw [s.rowsR k m V hp]; show q < s.n * 1; omega)
  have e3 := h.frozen (.row p) hv'
  rw [s.rowsR k m V hp] at hv' e2
  refine ⟨g, cap, g', cap', hv, hv', ?_, ?_, e3, hlt, hlt'⟩
  · rw [e1, ← hv']
    show ((List.range m).map fun p => V (.row p))[p]? = _
    simp [hp]
  · rw [e2]; simp [hq]

theorem GAt.top0 (h : GAt S w t s k m V tag) : w.cell? ⟨t, 0, none⟩ = some (V .nodes) := h.blk.cell 0
theorem GAt.top1 (h : GAt S w t s k m V tag) : w.cell? ⟨t, 1, none⟩ = some (V .ways) := h.blk.cell 1

/-- A field of a node is another one. -/
theorem GAt.setNode (h : GAt S w t s k m V tag) {g cap p c : Nat} (hv : V .nodes = .slice (some ⟨g, 0, none⟩) k cap) (hp : p < k) (hc : c < 5) (u : Value) (s' : GNet) (hn : s'.n = s.n) (hw : s'.ways = s.ways)
    (h0 : s'.cell p c = u) (h1 : ∀ q d, d < 5 → (q ≠ p ∨ d ≠ c) → s'.cell q d = s.cell q d) : GAt S (w.setCell ⟨g, p * 5 + c, none⟩ u) t s' k m V tag := by
  have h2 := h.setRow .nodes hv (p * 5 + c) u
  refine h2.congr rfl fun i => ?_
  cases i with
  | nodes =>
    rw [upd_self]
    have h3 := grid_set k 5 s.cell hp hc u s'.cell h0 h1
    show (⟨_, _, _, _, (grid k 5 s.cell).set _ _⟩ : Sl) = ⟨_, _, _, _, _⟩
    rw [h3]; rfl
  | ways => rw [upd_ne _ _ (by simp)]; rfl
  | row p => rw [upd_ne _ _ (by simp)]; unfold GNet.rows; rw [hn]
  | msg p q => rw [upd_ne _ _ (by simp)]; unfold GNet.rows; rw [hn, hw]

/-- One way is another one, and stored. -/
theorem GAt.setWay (h : GAt S w t s k m V tag) {p q g' cap' : Nat} (hp : p < m) (hq : q < s.n) (hv' : V (.row p) = .slice (some ⟨g', 0, none⟩) s.n cap') (hc : Chg (fun b => (V (.msg p q)).ownBlock = some b) w w1)
    (v : Value) (l : List Int) (ho : w1.ownsRow 0 58 1 v l.length (l.map (.int .i64))) (hb : ∀ b, v.ownBlock = some b → (V (.msg p q)).ownBlock = some b ∨ w.heap.size ≤ b) :
    GAt S (w1.setCell ⟨g', q, none⟩ v) t { s with ways := put2 s.ways p q l } k m (upd V (.msg p q) v) (mark tag v.ownBlock (Ix.msg p q)) := by
  have eM := s.rowsM k m V hp hq
  have eR := s.rowsR k m V hp
  have h2 := h.newRow (.msg p q) (by rw [eM]; exact hc) 58 1 v l.length (l.map (.int .i64)) ho (by rw [eM]; exact hb)
  have hne : Ix.row p ≠ Ix.msg p q := by simp
  have h3 := h2.setRow (.row p) (g := g') (n := s.n) (cap := cap') (by rw [upd_ne _ _ hne, eR]; exact hv') q v
  refine h3.congr (by unfold GNet.top; rw [upd_ne V _ (by simp), upd_ne V _ (by simp)]) fun i => ?_
  cases i with
  | nodes => rw [upd_ne _ _ (by simp), upd_ne _ _ (by simp)]; show (⟨_, _, V .nodes, _, _⟩ : Sl) = ⟨_, _, upd V (.msg p q) v .nodes, _, _⟩; rw [upd_ne V _ (by simp)]; rfl
  | ways =>
    rw [upd_ne _ _ (by simp), upd_ne _ _ (by simp)]
    show (⟨_, _, V .ways, _, _⟩ : Sl) = ⟨_, _, upd V (.msg p q) v .ways, _, (List.range m).map fun p' => upd V (.msg p q) v (.row p')⟩
    rw [upd_ne V _ (by simp)]
    have : (fun p' => upd V (.msg p q) v (.row p')) = fun p' => V (.row p') := funext fun p' => upd_ne V _ (by simp)
    rw [this]
  | row p' =>
    by_cases e : p' = p
    · subst e
      rw [upd_self, upd_ne _ _ hne, eR, GNet.rowsR _ _ _ _ hp, upd_ne V _ hne]
      have := map_range_set (fun j => V (.msg p' j)) s.n q v hq
      simp only []
      rw [this]
      congr 1
      apply List.map_congr_left
      intro j _
      by_cases ej : j = q
      · subst ej; rw [if_pos rfl, upd_self]
      · rw [if_neg ej, upd_ne V _ (by simp [ej])]
    · rw [upd_ne _ _ (by simp [e]), upd_ne _ _ (by simp)]
      show (if p' < m then _ else _) = (if p' < m then _ else _)
      by_cases hp' : p' < m
      · rw [if_pos hp', if_pos hp', upd_ne V _ (by simp)]
        have : (fun j => upd V (.msg p q) v (.msg p' j)) = fun j => V (.msg p' j) := funext fun j => upd_ne V _ (by simp [e])
        rw [this]
      · rw [if_neg hp', if_neg hp']
  | msg a b =>
    rw [upd_ne _ _ (by simp)]
    by_cases e : a = p ∧ b = q
    · obtain ⟨rfl, rfl⟩ := e
      rw [upd_self]
      refine Eq.trans ?_ (GNet.rowsM { s with ways := put2 s.ways a b l } k m (upd V (.msg a b) v) hp hq).symm
      rw [upd_self]
      show _ = (⟨_, _, _, (put2 s.ways a b l a b).length, (put2 s.ways a b l a b).map _⟩ : Sl)
      rw [put2_self]
    · have hne2 : Ix.msg a b ≠ Ix.msg p q := by
        intro h; injection h with h1 h2; exact e ⟨h1, h2⟩
      rw [upd_ne _ _ hne2]
      show (if a < m ∧ b < s.n then _ else _) = (if a < m ∧ b < s.n then (⟨_, _, upd V (.msg p q) v (.msg a b), (put2 s.ways p q l a b).length, (put2 s.ways p q l a b).map _⟩ : Sl) else _)
      rw [upd_ne V _ hne2, put2_ne _ _ (by omega)]

theorem GAt.msg (h : GAt S w t s k m V tag) {p q : Nat} (hp : p < m) (hq : q < s.n) : w.ownsRow 0 58 1 (V (.msg p q)) (s.ways p q).length ((s.ways p q).map (.int .i64)) ∧ (∀ b, (V (.msg p q)).ownBlock = some b → b < w.heap.size ∧ ¬ S b ∧ b ≠ t ∧ (V .nodes).ownBlock ≠ some b ∧ (V .ways).ownBlock ≠ some b ∧ (V (.row p)).ownBlock ≠ some b) := by
  have eM := s.rowsM k m V hp hq
  have eR := s.rowsR k m V hp
  refine ⟨by have := h.row (.msg p q); rw [eM] at this; exact this, fun b hb => ?_⟩
  have hb' : (s.rows k m V (.msg p q)).v.ownBlock = some b := by rw [eM]; exact hb
  refine ⟨h.lt hb', h.notS hb', fun e => ?_, h.ne (j := .nodes) (by simp) hb', h.ne (j := .ways) (by simp) hb', ?_⟩
  · subst e; exact h.tne hb'
  · have := h.ne (j := .row p) (by simp) hb'
    rw [eR] at this; exact this

theorem GIn.keep {g : Nat} (h : GIn S w t g s) (hc : Chg NoF w w1) : GIn S w1 t g s := by
  obtain ⟨V, tag, hg, h⟩ := h
  exact ⟨V, tag, hg, Mem.more h hc⟩

/-- The nodes' fields, at the place that is known. -/
theorem GAt.nodeAt {g cap : Nat} (h : GAt S w t s k m V tag) (hv : V .nodes = .slice (some ⟨g, 0, none⟩) k cap) : (∀ p c, p < k → c < 5 → w.cell? ⟨g, p * 5 + c, none⟩ = some (s.cell p c)) ∧ (∀ j, w.frozen? ⟨g, j, none⟩ = false) ∧ g ≠ t ∧ ¬ S g ∧ w.cell? ⟨t, 0, none⟩ = some (.slice (some ⟨g, 0, none⟩) k cap) := by
  refine ⟨fun p c hp hc => ?_, h.frozen .nodes hv, fun e => ?_, h.notS (i := .nodes) (by show (V .nodes).ownBlock = _; rw [hv]; rfl), by rw [← hv]; exact h.top0⟩
  · rw [h.cell .nodes hv _ (by show p * 5 + c < k * 5; omega)]
    exact grid_get k 5 s.cell hp hc
  · subst e; exact h.tne (i := .nodes) (by show (V .nodes).ownBlock = _; rw [hv]; rfl)

end
end Go.Proofs.YtmkjfiopkmcjcaaDoor
