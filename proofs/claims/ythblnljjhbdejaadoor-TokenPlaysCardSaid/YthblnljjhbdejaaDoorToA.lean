/-
  The lock whose token goes from one to the next: how it lies in memory, and what stores do to it.
  Conditions: a net as New made it.
-/
import Derived.Test.YthblnljjhbdejaaDoorToMath2
import Derived.Test.YthblnljjhbdejaaDoorMem
import Derived.Test.YthblnljjhbdejaaDoorRegion2
import Derived.Test.YthblnljjhbdejaaDoorSame
namespace Go.Proofs.YthblnljjhbdejaaDoor
open Go Go.RowKit

inductive Ix where
  | nodes
  | ways
  | served
  | queue
  | had (p : Nat)
  | row (p : Nat)
  | msg (p q : Nat)
  deriving DecidableEq

def TNet.cell (s : TNet) (V : Ix → Value) (p c : Nat) : Value := if c = 0 then .bool (s.asks p) else if c = 1 then .bool (s.inn p) else V (.had p)
def TNet.top (s : TNet) (V : Ix → Value) : List Value := [V .nodes, .int .i64 s.holder, .int .i64 s.target, V .served, V .queue, V .ways]
/-- The net's slices: k nodes, and m rows of ways. -/
def TNet.rows (s : TNet) (k m : Nat) (V : Ix → Value) : Ix → Sl
  | .nodes => ⟨51, 3, V .nodes, k, grid k 3 (s.cell V)⟩
  | .ways => ⟨22, 1, V .ways, m, (List.range m).map fun p => V (.row p)⟩
  | .served => ⟨3, 1, V .served, s.n, (List.range s.n).map fun p => .int .i64 (s.served p)⟩
  | .queue => ⟨3, 1, V .queue, s.queue.length, s.queue.map (.int .i64)⟩
  | .had p => if p < k then ⟨3, 1, V (.had p), s.n, (List.range s.n).map fun q => .int .i64 (s.had p q)⟩ else Sl.none
  | .row p => if p < m then ⟨29, 1, V (.row p), s.n, (List.range s.n).map fun q => V (.msg p q)⟩ else Sl.none
  | .msg p q => if p < m ∧ q < s.n then ⟨3, 1, V (.msg p q), (s.ways p q).length, (s.ways p q).map (.int .i64)⟩ else Sl.none

def TAt (S : Nat → Prop) (w : World) (t : Nat) (s : TNet) (k m : Nat) (V : Ix → Value) (tag : Nat → Option (Option Ix)) : Prop := Mem S w t (s.top V) (s.rows k m V) tag
/-- g: where the nodes lie. -/
def TIn (S : Nat → Prop) (w : World) (t g : Nat) (s : TNet) : Prop := ∃ V tag, (∃ cap, V .nodes = .slice (some ⟨g, 0, none⟩) s.n cap) ∧ TAt S w t s s.n s.n V tag

section
variable {S : Nat → Prop} {w w1 : World} {t : Nat} {s : TNet} {k m : Nat} {V : Ix → Value} {tag : Nat → Option (Option Ix)}

theorem TNet.rowsH (s : TNet) (k m : Nat) (V : Ix → Value) {p : Nat} (hp : p < k) : s.rows k m V (.had p) = ⟨3, 1, V (.had p), s.n, (List.range s.n).map fun q => .int .i64 (s.had p q)⟩ := if_pos hp
theorem TNet.rowsR (s : TNet) (k m : Nat) (V : Ix → Value) {p : Nat} (hp : p < m) : s.rows k m V (.row p) = ⟨29, 1, V (.row p), s.n, (List.range s.n).map fun q => V (.msg p q)⟩ := if_pos hp
theorem TNet.rowsM (s : TNet) (k m : Nat) (V : Ix → Value) {p q : Nat} (hp : p < m) (hq : q < s.n) : s.rows k m V (.msg p q) = ⟨3, 1, V (.msg p q), (s.ways p q).length, (s.ways p q).map (.int .i64)⟩ := if_pos ⟨hp, hq⟩
theorem TNet.rowsM0 (s : TNet) (k m : Nat) (V : Ix → Value) {p q : Nat} (h : ¬ (p < m ∧ q < s.n)) : s.rows k m V (.msg p q) = Sl.none := if_neg h
theorem TNet.rowsH0 (s : TNet) (k m : Nat) (V : Ix → Value) {p : Nat} (h : ¬ p < k) : s.rows k m V (.had p) = Sl.none := if_neg h
theorem TNet.rowsR0 (s : TNet) (k m : Nat) (V : Ix → Value) {p : Nat} (h : ¬ p < m) : s.rows k m V (.row p) = Sl.none := if_neg h

/-- A field of a node. -/
theorem TAt.nodeAt {g cap : Nat} (h : TAt S w t s k m V tag) (hv : V .nodes = .slice (some ⟨g, 0, none⟩) k cap) : (∀ p, p < k → w.cell? ⟨g, p * 3, none⟩ = some (.bool (s.asks p)) ∧ w.cell? ⟨g, p * 3 + 1, none⟩ = some (.bool (s.inn p)) ∧ w.cell? ⟨g, p * 3 + 2, none⟩ = some (V (.had p))) ∧ (∀ j, w.frozen? ⟨g, j, none⟩ = false) ∧ g ≠ t ∧ ¬ S g ∧ w.cell? ⟨t, 0, none⟩ = some (.slice (some ⟨g, 0, none⟩) k cap) := by
  have hc : ∀ p c, p < k → c < 3 → w.cell? ⟨g, p * 3 + c, none⟩ = some (s.cell V p c) := fun p c hp hc => by
    rw [h.cell .nodes hv _ (by show p * 3 + c < k * 3; omega)]
    exact grid_get k 3 (s.cell V) hp hc
  refine ⟨fun p hp => ⟨hc p 0 hp (by omega), hc p 1 hp (by omega), hc p 2 hp (by omega)⟩, h.frozen .nodes hv, fun e => ?_, h.notS (i := .nodes) (by show (V .nodes).ownBlock = _; rw [hv]; rfl), by rw [← hv]; exact h.blk.cell 0⟩
  subst e; exact h.tne (i := .nodes) (by show (V .nodes).ownBlock = _; rw [hv]; rfl)

/-- What a node knows. -/
theorem TAt.hadAt (h : TAt S w t s k m V tag) {p : Nat} (hp : p < k) (hn : 0 < s.n) : ∃ b c, V (.had p) = .slice (some ⟨b, 0, none⟩) s.n c ∧ (∀ q, q < s.n → w.cell? ⟨b, q, none⟩ = some (.int .i64 (s.had p q))) ∧ (∀ j, w.frozen? ⟨b, j, none⟩ = false) ∧ b ≠ t ∧ ¬ S b ∧ (V .nodes).ownBlock ≠ some b := by
  have e := s.rowsH k m V hp
  obtain ⟨b, c, hv, hb, hlt, _⟩ := h.val (.had p) (show 0 < (s.rows k m V (.had p)).n by rw [e]; exact hn)
  have hf := h.frozen (.had p) hv
  have hcell := fun q hq => h.cell (.had p) hv q hq
  have hne := h.ne (j := .nodes) (by simp) hb
  rw [e] at hv
  refine ⟨b, c, hv, fun q hq => ?_, hf, fun e' => ?_, h.notS hb, hne⟩
  · rw [hcell q (by rw [e]; show q < s.n * 1; omega), e]; simp [hq]
  · subst e'; exact h.tne hb

/-- How often each was served. -/
theorem TAt.servedAt (h : TAt S w t s k m V tag) (hn : 0 < s.n) : ∃ b c, V .served = .slice (some ⟨b, 0, none⟩) s.n c ∧ (∀ q, q < s.n → w.cell? ⟨b, q, none⟩ = some (.int .i64 (s.served q))) ∧ (∀ j, w.frozen? ⟨b, j, none⟩ = false) ∧ b ≠ t ∧ ¬ S b ∧ (V .nodes).ownBlock ≠ some b ∧ w.cell? ⟨t, 3, none⟩ = some (.slice (some ⟨b, 0, none⟩) s.n c) := by
  obtain ⟨b, c, hv, hb, hlt, _⟩ := h.val .served hn
  have hv' : V .served = .slice (some ⟨b, 0, none⟩) s.n c := hv
  refine ⟨b, c, hv, fun q hq => ?_, h.frozen .served hv, fun e' => ?_, h.notS hb, h.ne (j := .nodes) (by simp) hb, ?_⟩
  · rw [h.cell .served hv q (by show q < s.n * 1; omega)]
    show ((List.range s.n).map fun p => Value.int .i64 (s.served p))[q]? = _
    simp [hq]
  · subst e'; exact h.tne hb
  · rw [← hv']; exact h.blk.cell 3

/-- The ways of a node, and one of them. -/
theorem TAt.way (h : TAt S w t s k m V tag) {p q : Nat} (hp : p < m) (hq : q < s.n) : ∃ g cap g' cap', V .ways = .slice (some ⟨g, 0, none⟩) m cap ∧ V (.row p) = .slice (some ⟨g', 0, none⟩) s.n cap' ∧
    w.cell? ⟨g, p, none⟩ = some (.slice (some ⟨g', 0, none⟩) s.n cap') ∧ w.cell? ⟨g', q, none⟩ = some (V (.msg p q)) ∧ (∀ j, w.frozen? ⟨g', j, none⟩ = false) ∧ g < w.heap.size ∧ g' < w.heap.size ∧ w.cell? ⟨t, 5, none⟩ = some (.slice (some ⟨g, 0, none⟩) m cap) := by
  obtain ⟨g, cap, hv, _, hlt, _⟩ := h.val .ways (show 0 < m by omega)
  have hv0 : V .ways = .slice (some ⟨g, 0, none⟩) m cap := hv
  obtain ⟨g', cap', hv', _, hlt', _⟩ := h.val (.row p) (show 0 < (s.rows k m V (.row p)).n by rw [s.rowsR k m V hp]; show 0 < s.n; omega)
  have e1 := h.cell .ways hv p (by show p < m * 1; omega)
  have e2 := h.cell (.row p) hv' q (by rw [s.rowsR k m V hp]; show q < s.n * 1; omega)
  have e3 := h.frozen (.row p) hv'
  rw [s.rowsR k m V hp] at hv' e2
  refine ⟨g, cap, g', cap', hv, hv', ?_, ?_, e3, hlt, hlt', by rw [← hv0]; exact h.blk.cell 5⟩
  · rw [e1, ← hv']
    show ((List.range m).map fun p => V (.row p))[p]? = _
    simp [hp]
  · rw [e2]; simp [hq]

theorem TAt.msg (h : TAt S w t s k m V tag) {p q : Nat} (hp : p < m) (hq : q < s.n) : w.ownsRow 0 3 1 (V (.msg p q)) (s.ways p q).length ((s.ways p q).map (.int .i64)) ∧ (∀ b, (V (.msg p q)).ownBlock = some b → b < w.heap.size ∧ ¬ S b ∧ b ≠ t ∧ (V .nodes).ownBlock ≠ some b ∧ (V .ways).ownBlock ≠ some b ∧ (V (.row p)).ownBlock ≠ some b ∧ ∀ a, a < k → (V (.had a)).ownBlock ≠ some b) := by
  have eM := s.rowsM k m V hp hq
  have eR := s.rowsR k m V hp
  refine ⟨by have := h.row (.msg p q); rw [eM] at this; exact this, fun b hb => ?_⟩
  have hb' : (s.rows k m V (.msg p q)).v.ownBlock = some b := by rw [eM]; exact hb
  refine ⟨h.lt hb', h.notS hb', fun e => ?_, h.ne (j := .nodes) (by simp) hb', h.ne (j := .ways) (by simp) hb', ?_, fun a ha => ?_⟩
  · subst e; exact h.tne hb'
  · have := h.ne (j := .row p) (by simp) hb'
    rw [eR] at this; exact this
  · have := h.ne (j := .had a) (by simp) hb'
    rw [s.rowsH k m V ha] at this; exact this

theorem TAt.queueAt (h : TAt S w t s k m V tag) : w.ownsRow 0 3 1 (V .queue) s.queue.length (s.queue.map (.int .i64)) ∧ w.cell? ⟨t, 4, none⟩ = some (V .queue) ∧ (∀ b, (V .queue).ownBlock = some b → b < w.heap.size ∧ ¬ S b ∧ b ≠ t ∧ (V .nodes).ownBlock ≠ some b ∧ (V .served).ownBlock ≠ some b ∧ ∀ a, a < k → (V (.had a)).ownBlock ≠ some b) := by
  refine ⟨h.row .queue, h.blk.cell 4, fun b hb => ?_⟩
  have hb' : (s.rows k m V .queue).v.ownBlock = some b := hb
  refine ⟨h.lt hb', h.notS hb', fun e => ?_, h.ne (j := .nodes) (by simp) hb', h.ne (j := .served) (by simp) hb', fun a ha => ?_⟩
  · subst e; exact h.tne hb'
  · have := h.ne (j := .had a) (by simp) hb'
    rw [s.rowsH k m V ha] at this; exact this

/-! ### Stores -/
/-- The same slices, but for what a store into one of them changes: all others are as they were. -/
theorem TAt.setAsks {g cap p : Nat} (h : TAt S w t s s.n s.n V tag) (hv : V .nodes = .slice (some ⟨g, 0, none⟩) s.n cap) (hp : p < s.n) (b : Bool) :
    TAt S (w.setCell ⟨g, p * 3, none⟩ (.bool b)) t { s with asks := put1 s.asks p b } s.n s.n V tag := by
  refine (h.setRow .nodes hv (p * 3) (.bool b)).congr rfl fun i => ?_
  cases i with
  | nodes =>
    rw [upd_self]
    have h3 := grid_set s.n 3 (s.cell V) hp (show 0 < 3 by omega) (.bool b) (({ s with asks := put1 s.asks p b } : TNet).cell V) (by show Value.bool (put1 s.asks p b p) = _; rw [put1_self]) (fun q d hd hne => by
      by_cases e : d = 0
      · subst e
        show Value.bool (put1 s.asks p b q) = .bool (s.asks q)
        rw [put1_ne _ _ (by omega)]
      · have hd' : d = 1 ∨ d = 2 := by omega
        rcases hd' with rfl | rfl <;> rfl)
    show (⟨_, _, _, _, (grid s.n 3 (s.cell V)).set (p * 3 + 0) _⟩ : Sl) = ⟨_, _, _, _, _⟩
    rw [h3]; rfl
  | ways => rw [upd_ne _ _ (by simp)]; rfl
  | served => rw [upd_ne _ _ (by simp)]; rfl
  | queue => rw [upd_ne _ _ (by simp)]; rfl
  | had q => rw [upd_ne _ _ (by simp)]; rfl
  | row q => rw [upd_ne _ _ (by simp)]; rfl
  | msg a q => rw [upd_ne _ _ (by simp)]; rfl

theorem TAt.setInn {g cap p : Nat} (h : TAt S w t s s.n s.n V tag) (hv : V .nodes = .slice (some ⟨g, 0, none⟩) s.n cap) (hp : p < s.n) (b : Bool) :
    TAt S (w.setCell ⟨g, p * 3 + 1, none⟩ (.bool b)) t { s with inn := put1 s.inn p b } s.n s.n V tag := by
  refine (h.setRow .nodes hv (p * 3 + 1) (.bool b)).congr rfl fun i => ?_
  cases i with
  | nodes =>
    rw [upd_self]
    have h3 := grid_set s.n 3 (s.cell V) hp (show 1 < 3 by omega) (.bool b) (({ s with inn := put1 s.inn p b } : TNet).cell V) (by show Value.bool (put1 s.inn p b p) = _; rw [put1_self]) (fun q d hd hne => by
      by_cases e : d = 1
      · subst e
        show Value.bool (put1 s.inn p b q) = .bool (s.inn q)
        rw [put1_ne _ _ (by omega)]
      · have hd' : d = 0 ∨ d = 2 := by omega
        rcases hd' with rfl | rfl <;> rfl)
    show (⟨_, _, _, _, (grid s.n 3 (s.cell V)).set (p * 3 + 1) _⟩ : Sl) = ⟨_, _, _, _, _⟩
    rw [h3]; rfl
  | ways => rw [upd_ne _ _ (by simp)]; rfl
  | served => rw [upd_ne _ _ (by simp)]; rfl
  | queue => rw [upd_ne _ _ (by simp)]; rfl
  | had q => rw [upd_ne _ _ (by simp)]; rfl
  | row q => rw [upd_ne _ _ (by simp)]; rfl
  | msg a q => rw [upd_ne _ _ (by simp)]; rfl

theorem TAt.setHad {b c p q : Nat} (h : TAt S w t s s.n s.n V tag) (hv : V (.had p) = .slice (some ⟨b, 0, none⟩) s.n c) (hp : p < s.n) (hq : q < s.n) (x : Int) :
    TAt S (w.setCell ⟨b, q, none⟩ (.int .i64 x)) t { s with had := put2 s.had p q x } s.n s.n V tag := by
  have e := s.rowsH s.n s.n V hp
  refine (h.setRow (.had p) (g := b) (n := s.n) (cap := c) (by rw [e]; exact hv) q (.int .i64 x)).congr rfl fun i => ?_
  cases i with
  | nodes => rw [upd_ne _ _ (by simp)]; rfl
  | ways => rw [upd_ne _ _ (by simp)]; rfl
  | served => rw [upd_ne _ _ (by simp)]; rfl
  | queue => rw [upd_ne _ _ (by simp)]; rfl
  | had a =>
    by_cases ea : a = p
    · subst ea
      rw [upd_self, e]
      refine Eq.trans ?_ (TNet.rowsH { s with had := put2 s.had a q x } s.n s.n V hp).symm
      have := map_range_set (fun j => Value.int .i64 (s.had a j)) s.n q (.int .i64 x) hq
      simp only []
      rw [this]
      congr 1
      apply List.map_congr_left
      intro j _
      by_cases ej : j = q
      · subst ej; rw [if_pos rfl]; show _ = Value.int .i64 (put2 s.had a j x a j); rw [put2_self]
      · rw [if_neg ej]; show _ = Value.int .i64 (put2 s.had a q x a j); rw [put2_ne _ _ (.inr ej)]
    · rw [upd_ne _ _ (by simp [ea])]
      show (if a < s.n then _ else _) = (if a < s.n then (⟨_, _, _, _, (List.range s.n).map fun j => Value.int .i64 (put2 s.had p q x a j)⟩ : Sl) else _)
      have : (fun j => Value.int .i64 (put2 s.had p q x a j)) = fun j => Value.int .i64 (s.had a j) := funext fun j => by rw [put2_ne _ _ (.inl ea)]
      rw [this]
  | row a => rw [upd_ne _ _ (by simp)]; rfl
  | msg a b => rw [upd_ne _ _ (by simp)]; rfl

theorem TAt.setServed {b c q : Nat} (h : TAt S w t s s.n s.n V tag) (hv : V .served = .slice (some ⟨b, 0, none⟩) s.n c) (hq : q < s.n) (x : Int) :
    TAt S (w.setCell ⟨b, q, none⟩ (.int .i64 x)) t { s with served := put1 s.served q x } s.n s.n V tag := by
  refine (h.setRow .served hv q (.int .i64 x)).congr rfl fun i => ?_
  cases i with
  | nodes => rw [upd_ne _ _ (by simp)]; rfl
  | ways => rw [upd_ne _ _ (by simp)]; rfl
  | served =>
    rw [upd_self]
    have := map_range_set (fun j => Value.int .i64 (s.served j)) s.n q (.int .i64 x) hq
    show (⟨_, _, _, _, ((List.range s.n).map fun j => Value.int .i64 (s.served j)).set q _⟩ : Sl) = ⟨_, _, _, _, (List.range s.n).map fun j => Value.int .i64 (put1 s.served q x j)⟩
    rw [this]
    have e2 : (fun j => if j = q then Value.int .i64 x else Value.int .i64 (s.served j)) = fun j => Value.int .i64 (put1 s.served q x j) := funext fun j => by
      by_cases ej : j = q
      · subst ej; rw [if_pos rfl, put1_self]
      · rw [if_neg ej, put1_ne _ _ ej]
    rw [e2]; rfl
  | queue => rw [upd_ne _ _ (by simp)]; rfl
  | had a => rw [upd_ne _ _ (by simp)]; rfl
  | row a => rw [upd_ne _ _ (by simp)]; rfl
  | msg a b => rw [upd_ne _ _ (by simp)]; rfl

theorem TAt.setHolder (h : TAt S w t s s.n s.n V tag) (x : Int) : TAt S (w.setCell ⟨t, 1, none⟩ (.int .i64 x)) t { s with holder := x } s.n s.n V tag :=
  (h.setTop 1 (.int .i64 x)).congr rfl fun i => by cases i <;> rfl
theorem TAt.setTarget (h : TAt S w t s s.n s.n V tag) (x : Int) : TAt S (w.setCell ⟨t, 2, none⟩ (.int .i64 x)) t { s with target := x } s.n s.n V tag :=
  (h.setTop 2 (.int .i64 x)).congr rfl fun i => by cases i <;> rfl

/-- The cells of nodes do not see a slice that is none of theirs. -/
theorem cell_upd (s : TNet) (V : Ix → Value) (i : Ix) (v : Value) (hi : ∀ p, Ix.had p ≠ i) : s.cell (upd V i v) = s.cell V := by
  funext p c
  unfold TNet.cell
  rw [upd_ne V _ (hi p)]

theorem TAt.setQueue (h : TAt S w t s s.n s.n V tag) (hc : Chg (fun b => (V .queue).ownBlock = some b) w w1) (v : Value) (l : List Int) (ho : w1.ownsRow 0 3 1 v l.length (l.map (.int .i64))) (hb : ∀ b, v.ownBlock = some b → (V .queue).ownBlock = some b ∨ w.heap.size ≤ b) :
    TAt S (w1.setCell ⟨t, 4, none⟩ v) t { s with queue := l } s.n s.n (upd V .queue v) (mark tag v.ownBlock Ix.queue) := by
  refine ((Mem.newRow h .queue hc 3 1 v l.length _ ho hb).setTop 4 v).congr ?_ fun i => ?_
  · unfold TNet.top
    rw [upd_ne V _ (by simp), upd_ne V _ (by simp), upd_self, upd_ne V _ (by simp)]; rfl
  cases i with
  | nodes =>
    rw [upd_ne _ _ (by simp)]
    show (⟨_, _, V .nodes, _, grid s.n 3 (s.cell V)⟩ : Sl) = ⟨_, _, upd V .queue v .nodes, _, grid s.n 3 (({ s with queue := l } : TNet).cell (upd V .queue v))⟩
    rw [upd_ne V _ (by simp), cell_upd _ _ _ _ (by simp)]; rfl
  | ways =>
    rw [upd_ne _ _ (by simp)]
    show (⟨_, _, V .ways, _, _⟩ : Sl) = ⟨_, _, upd V .queue v .ways, _, (List.range s.n).map fun p' => upd V .queue v (.row p')⟩
    rw [upd_ne V _ (by simp)]
    have : (fun p' => upd V .queue v (.row p')) = fun p' => V (.row p') := funext fun p' => upd_ne V _ (by simp)
    rw [this]
  | served =>
    rw [upd_ne _ _ (by simp)]
    show (⟨_, _, V .served, _, _⟩ : Sl) = ⟨_, _, upd V .queue v .served, _, _⟩
    rw [upd_ne V _ (by simp)]
  | queue =>
    rw [upd_self]
    show _ = (⟨_, _, upd V .queue v .queue, _, _⟩ : Sl)
    rw [upd_self]
  | had p =>
    rw [upd_ne _ _ (by simp)]
    show (if p < s.n then _ else _) = (if p < s.n then (⟨_, _, upd V .queue v (.had p), _, _⟩ : Sl) else _)
    rw [upd_ne V _ (by simp)]
  | row p =>
    rw [upd_ne _ _ (by simp)]
    show (if p < s.n then _ else _) = (if p < s.n then (⟨_, _, upd V .queue v (.row p), _, (List.range s.n).map fun q => upd V .queue v (.msg p q)⟩ : Sl) else _)
    rw [upd_ne V _ (by simp)]
    have : (fun q => upd V .queue v (.msg p q)) = fun q => V (.msg p q) := funext fun q => upd_ne V _ (by simp)
    rw [this]
  | msg p q =>
    rw [upd_ne _ _ (by simp)]
    show (if p < s.n ∧ q < s.n then _ else _) = (if p < s.n ∧ q < s.n then (⟨_, _, upd V .queue v (.msg p q), _, _⟩ : Sl) else _)
    rw [upd_ne V _ (by simp)]

/-- One way is another one, and stored. -/
theorem TAt.setWay (h : TAt S w t s k m V tag) {p q g' cap' : Nat} (hp : p < m) (hq : q < s.n) (hv' : V (.row p) = .slice (some ⟨g', 0, none⟩) s.n cap') (hc : Chg (fun b => (V (.msg p q)).ownBlock = some b) w w1)
    (v : Value) (l : List Int) (ho : w1.ownsRow 0 3 1 v l.length (l.map (.int .i64))) (hb : ∀ b, v.ownBlock = some b → (V (.msg p q)).ownBlock = some b ∨ w.heap.size ≤ b) :
    TAt S (w1.setCell ⟨g', q, none⟩ v) t { s with ways := put2 s.ways p q l } k m (upd V (.msg p q) v) (mark tag v.ownBlock (Ix.msg p q)) := by
  have eM := s.rowsM k m V hp hq
  have eR := s.rowsR k m V hp
  have h2 := h.newRow (.msg p q) (by rw [eM]; exact hc) 3 1 v l.length (l.map (.int .i64)) ho (by rw [eM]; exact hb)
  have hne : Ix.row p ≠ Ix.msg p q := by simp
  have h3 := h2.setRow (.row p) (g := g') (n := s.n) (cap := cap') (by rw [upd_ne _ _ hne, eR]; exact hv') q v
  refine h3.congr (by unfold TNet.top; rw [upd_ne V _ (by simp), upd_ne V _ (by simp), upd_ne V _ (by simp), upd_ne V _ (by simp)]) fun i => ?_
  cases i with
  | nodes =>
    rw [upd_ne _ _ (by simp), upd_ne _ _ (by simp)]
    show (⟨_, _, V .nodes, _, grid k 3 (s.cell V)⟩ : Sl) = ⟨_, _, upd V (.msg p q) v .nodes, _, grid k 3 (({ s with ways := put2 s.ways p q l } : TNet).cell (upd V (.msg p q) v))⟩
    rw [upd_ne V _ (by simp), cell_upd _ _ _ _ (by simp)]; rfl
  | served =>
    rw [upd_ne _ _ (by simp), upd_ne _ _ (by simp)]
    show (⟨_, _, V .served, _, _⟩ : Sl) = ⟨_, _, upd V (.msg p q) v .served, _, _⟩
    rw [upd_ne V _ (by simp)]
  | queue =>
    rw [upd_ne _ _ (by simp), upd_ne _ _ (by simp)]
    show (⟨_, _, V .queue, _, _⟩ : Sl) = ⟨_, _, upd V (.msg p q) v .queue, _, _⟩
    rw [upd_ne V _ (by simp)]
  | had a =>
    rw [upd_ne _ _ (by simp), upd_ne _ _ (by simp)]
    show (if a < k then _ else _) = (if a < k then (⟨_, _, upd V (.msg p q) v (.had a), _, _⟩ : Sl) else _)
    rw [upd_ne V _ (by simp)]
  | ways =>
    rw [upd_ne _ _ (by simp), upd_ne _ _ (by simp)]
    show (⟨_, _, V .ways, _, _⟩ : Sl) = ⟨_, _, upd V (.msg p q) v .ways, _, (List.range m).map fun p' => upd V (.msg p q) v (.row p')⟩
    rw [upd_ne V _ (by simp)]
    have : (fun p' => upd V (.msg p q) v (.row p')) = fun p' => V (.row p') := funext fun p' => upd_ne V _ (by simp)
    rw [this]
  | row p' =>
    by_cases e : p' = p
    · subst e
      rw [upd_self, upd_ne _ _ hne, eR, TNet.rowsR _ _ _ _ hp, upd_ne V _ hne]
      have := map_range_set (fun j => V (.msg p' j)) s.n q v hq
      simp only []
      rw [this]
      congr 1
      apply List.map_congr_left
      intro j _
      by_cases ej : j = q
      · subst ej; rw [if_pos rfl, upd_self]
      · rw [if_neg ej, upd_ne V _ (by simp [ej])]
    · rw [upd_ne _ _ (by simp [e]), upd_ne _ _ (by simp)]
      show (if p' < m then _ else _) = (if p' < m then _ else _)
      by_cases hp' : p' < m
      · rw [if_pos hp', if_pos hp', upd_ne V _ (by simp)]
        have : (fun j => upd V (.msg p q) v (.msg p' j)) = fun j => V (.msg p' j) := funext fun j => upd_ne V _ (by simp [e])
        rw [this]
      · rw [if_neg hp', if_neg hp']
  | msg a b =>
    rw [upd_ne _ _ (by simp)]
    by_cases e : a = p ∧ b = q
    · obtain ⟨rfl, rfl⟩ := e
      rw [upd_self]
      refine Eq.trans ?_ (TNet.rowsM { s with ways := put2 s.ways a b l } k m (upd V (.msg a b) v) hp hq).symm
      rw [upd_self]
      show _ = (⟨_, _, _, (put2 s.ways a b l a b).length, (put2 s.ways a b l a b).map _⟩ : Sl)
      rw [put2_self]
    · have hne2 : Ix.msg a b ≠ Ix.msg p q := by
        intro h; injection h with h1 h2; exact e ⟨h1, h2⟩
      rw [upd_ne _ _ hne2]
      show (if a < m ∧ b < s.n then _ else _) = (if a < m ∧ b < s.n then (⟨_, _, upd V (.msg p q) v (.msg a b), (put2 s.ways p q l a b).length, (put2 s.ways p q l a b).map _⟩ : Sl) else _)
      rw [upd_ne V _ hne2, put2_ne _ _ (by omega)]

theorem TIn.keep {g : Nat} (h : TIn S w t g s) (hc : Chg NoF w w1) : TIn S w1 t g s := by
  obtain ⟨V, tag, hg, h⟩ := h
  exact ⟨V, tag, hg, Mem.more h hc⟩
theorem TIn.mono {S' : Nat → Prop} {g : Nat} (h : TIn S w t g s) (hS : ∀ b, S' b → S b) : TIn S' w t g s := by
  obtain ⟨V, tag, hg, h⟩ := h
  exact ⟨V, tag, hg, ⟨fun b hb => h.hS b (hS b hb), h.ht, h.blk, h.row, h.tg⟩⟩

end
end Go.Proofs.YthblnljjhbdejaaDoor
