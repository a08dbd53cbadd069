/-
  The net that tells all of all: how it lies in memory, and what stores do to it.
  Conditions: a net as New made it.
-/
import Derived.Test.YtiakkhahohhpaaaDoorCsMath
import Derived.Test.YtiakkhahohhpaaaDoorMem
import Derived.Test.YtiakkhahohhpaaaDoorRegion2
import Derived.Test.YtiakkhahohhpaaaDoorSame
namespace Go.Proofs.YtiakkhahohhpaaaDoor
open Go Go.RowKit

inductive Ix where
  | notes
  | hads
  | gots
  | vec (k : Nat)
  | had (p : Nat)
  | got (p : Nat)
  deriving DecidableEq

def CNet.cell (s : CNet) (V : Ix → Value) (k c : Nat) : Value := if c = 0 then .int .i64 (s.bys k) else V (.vec k)
def ctop (V : Ix → Value) : List Value := [V .notes, V .hads, V .gots]
/-- hn: how many nodes have a list of what they had (all, but in New). -/
def CNet.rows (s : CNet) (hn : Nat) (V : Ix → Value) : Ix → Sl
  | .notes => ⟨56, 2, V .notes, s.m, grid s.m 2 (s.cell V)⟩
  | .hads => ⟨29, 1, V .hads, hn, (List.range hn).map fun p => V (.had p)⟩
  | .gots => ⟨29, 1, V .gots, s.n, (List.range s.n).map fun p => V (.got p)⟩
  | .vec k => if k < s.m then ⟨3, 1, V (.vec k), s.n, (List.range s.n).map fun q => .int .i64 (s.vec k q)⟩ else Sl.none
  | .had p => if p < hn then ⟨3, 1, V (.had p), s.n, (List.range s.n).map fun q => .int .i64 (s.had p q)⟩ else Sl.none
  | .got p => if p < s.n then ⟨3, 1, V (.got p), (s.got p).length, (s.got p).map (.int .i64)⟩ else Sl.none

def CAtH (S : Nat → Prop) (w : World) (t : Nat) (s : CNet) (hn : Nat) (V : Ix → Value) (tag : Nat → Option (Option Ix)) : Prop := Mem S w t (ctop V) (s.rows hn V) tag
def CAt (S : Nat → Prop) (w : World) (t : Nat) (s : CNet) (V : Ix → Value) (tag : Nat → Option (Option Ix)) : Prop := CAtH S w t s s.n V tag
def CIn (S : Nat → Prop) (w : World) (t : Nat) (s : CNet) : Prop := ∃ V tag, CAt S w t s V tag

section
variable {S : Nat → Prop} {w w1 : World} {t : Nat} {s : CNet} {hn : Nat} {V : Ix → Value} {tag : Nat → Option (Option Ix)}

theorem CNet.rowsV (s : CNet) (hn : Nat) (V : Ix → Value) {k : Nat} (hk : k < s.m) : s.rows hn V (.vec k) = ⟨3, 1, V (.vec k), s.n, (List.range s.n).map fun q => .int .i64 (s.vec k q)⟩ := if_pos hk
theorem CNet.rowsH (s : CNet) (hn : Nat) (V : Ix → Value) {p : Nat} (hp : p < hn) : s.rows hn V (.had p) = ⟨3, 1, V (.had p), s.n, (List.range s.n).map fun q => .int .i64 (s.had p q)⟩ := if_pos hp
theorem CNet.rowsG (s : CNet) (hn : Nat) (V : Ix → Value) {p : Nat} (hp : p < s.n) : s.rows hn V (.got p) = ⟨3, 1, V (.got p), (s.got p).length, (s.got p).map (.int .i64)⟩ := if_pos hp

/-- A note. -/
theorem CAt.noteAt (h : CAt S w t s V tag) {k : Nat} (hk : k < s.m) (hn : 0 < s.n) : ∃ g cap b c, V .notes = .slice (some ⟨g, 0, none⟩) s.m cap ∧ V (.vec k) = .slice (some ⟨b, 0, none⟩) s.n c ∧
    w.cell? ⟨t, 0, none⟩ = some (.slice (some ⟨g, 0, none⟩) s.m cap) ∧ w.cell? ⟨g, k * 2, none⟩ = some (.int .i64 (s.bys k)) ∧ w.cell? ⟨g, k * 2 + 1, none⟩ = some (.slice (some ⟨b, 0, none⟩) s.n c) ∧
    (∀ q, q < s.n → w.cell? ⟨b, q, none⟩ = some (.int .i64 (s.vec k q))) ∧ s.n ≤ c ∧ c ≤ maxLen := by
  obtain ⟨g, cap, hv, hgb, hlt, _⟩ := h.val .notes (show 0 < s.m by omega)
  have hv0 : V .notes = .slice (some ⟨g, 0, none⟩) s.m cap := hv
  have e := s.rowsV s.n V hk
  obtain ⟨b, c, hv', hb, _, hc1, hc2⟩ := h.val (.vec k) (show 0 < (s.rows s.n V (.vec k)).n by rw [e]; exact hn)
  have hcell := fun q hq => h.cell (.vec k) hv' q hq
  rw [e] at hv' hcell hc1
  have hc : ∀ c, c < 2 → w.cell? ⟨g, k * 2 + c, none⟩ = some (s.cell V k c) := fun c hc => by
    rw [h.cell .notes hv _ (by show k * 2 + c < s.m * 2; omega)]
    exact grid_get s.m 2 (s.cell V) hk hc
  refine ⟨g, cap, b, c, hv0, hv', ?_, hc 0 (by omega), ?_, fun q hq => ?_, hc1, hc2⟩
  · rw [← hv0]; exact h.blk.cell 0
  · rw [hc 1 (by omega)]
    show some (V (.vec k)) = _
    rw [← hv']
  · rw [hcell q (by show q < s.n * 1; omega)]
    show ((List.range s.n).map fun q => Value.int .i64 (s.vec k q))[q]? = _
    simp [hq]

/-- What a node had of each. -/
theorem CAt.hadAt (h : CAt S w t s V tag) {p : Nat} (hp : p < s.n) : ∃ g cap b c, V .hads = .slice (some ⟨g, 0, none⟩) s.n cap ∧ V (.had p) = .slice (some ⟨b, 0, none⟩) s.n c ∧
    w.cell? ⟨t, 1, none⟩ = some (.slice (some ⟨g, 0, none⟩) s.n cap) ∧ w.cell? ⟨g, p, none⟩ = some (.slice (some ⟨b, 0, none⟩) s.n c) ∧
    (∀ q, q < s.n → w.cell? ⟨b, q, none⟩ = some (.int .i64 (s.had p q))) ∧ (∀ j, w.frozen? ⟨b, j, none⟩ = false) ∧ b ≠ t ∧ g ≠ t ∧ g ≠ b ∧ ¬ S b ∧ s.n ≤ c ∧ c ≤ maxLen := by
  obtain ⟨g, cap, hv, hgb, hlt, _⟩ := h.val .hads (show 0 < s.n by omega)
  have hv0 : V .hads = .slice (some ⟨g, 0, none⟩) s.n cap := hv
  have e := s.rowsH s.n V hp
  obtain ⟨b, c, hv', hb, _, hc1, hc2⟩ := h.val (.had p) (show 0 < (s.rows s.n V (.had p)).n by rw [e]; show 0 < s.n; omega)
  have hf := h.frozen (.had p) hv'
  have hcell := fun q hq => h.cell (.had p) hv' q hq
  have hne := h.ne (j := .hads) (by simp) hb
  rw [e] at hv' hcell hc1
  refine ⟨g, cap, b, c, hv0, hv', ?_, ?_, fun q hq => ?_, hf, fun e' => ?_, fun e' => ?_, fun e' => ?_, h.notS hb, hc1, hc2⟩
  · rw [← hv0]; exact h.blk.cell 1
  · rw [h.cell .hads hv p (by show p < s.n * 1; omega), ← hv']
    show ((List.range s.n).map fun k => V (.had k))[p]? = _
    simp [hp]
  · rw [hcell q (by show q < s.n * 1; omega)]
    show ((List.range s.n).map fun q => Value.int .i64 (s.had p q))[q]? = _
    simp [hq]
  · subst e'; exact h.tne hb
  · subst e'; exact h.tne hgb
  · subst e'; exact hne hgb

/-- How many nodes there are. -/
theorem CAt.hadsAt (h : CAt S w t s V tag) (hn : 0 < s.n) : ∃ g cap, V .hads = .slice (some ⟨g, 0, none⟩) s.n cap ∧ w.cell? ⟨t, 1, none⟩ = some (.slice (some ⟨g, 0, none⟩) s.n cap) := by
  obtain ⟨g, cap, hv, _⟩ := h.val .hads hn
  have hv0 : V .hads = .slice (some ⟨g, 0, none⟩) s.n cap := hv
  exact ⟨g, cap, hv0, by rw [← hv0]; exact h.blk.cell 1⟩

/-- How many notes there are. -/
theorem CAt.notesAt (h : CAt S w t s V tag) : w.ownsRow 0 56 2 (V .notes) s.m (grid s.m 2 (s.cell V)) ∧ w.cell? ⟨t, 0, none⟩ = some (V .notes) ∧ (∀ b, (V .notes).ownBlock = some b → b < w.heap.size ∧ ¬ S b ∧ b ≠ t) ∧ ∃ a c, V .notes = .slice a s.m c := by
  refine ⟨h.row .notes, h.blk.cell 0, fun b hb => ?_, h.val0 .notes⟩
  have hb' : (s.rows s.n V .notes).v.ownBlock = some b := hb
  refine ⟨h.lt hb', h.notS hb', fun e => ?_⟩
  subst e; exact h.tne hb'

/-- What a node got. -/
theorem CAt.gotAt {p : Nat} (h : CAt S w t s V tag) (hp : p < s.n) : ∃ g cap, V .gots = .slice (some ⟨g, 0, none⟩) s.n cap ∧ w.cell? ⟨t, 2, none⟩ = some (.slice (some ⟨g, 0, none⟩) s.n cap) ∧ w.cell? ⟨g, p, none⟩ = some (V (.got p)) ∧ w.frozen? ⟨g, p, none⟩ = false ∧ g ≠ t ∧ ¬ S g ∧ g < w.heap.size ∧
    w.ownsRow 0 3 1 (V (.got p)) (s.got p).length ((s.got p).map (.int .i64)) ∧ (∃ a c, V (.got p) = .slice a (s.got p).length c) ∧ (∀ b, (V (.got p)).ownBlock = some b → b < w.heap.size ∧ ¬ S b ∧ b ≠ t ∧ b ≠ g) := by
  obtain ⟨g, cap, hv, hg, hglt, _⟩ := h.val .gots (show 0 < s.n by omega)
  have e := s.rowsG s.n V hp
  have hr := h.row (.got p)
  have hv0 := h.val0 (.got p)
  rw [e] at hr hv0
  have hv' : V .gots = .slice (some ⟨g, 0, none⟩) s.n cap := hv
  refine ⟨g, cap, hv', by rw [← hv']; exact h.blk.cell 2, ?_, h.frozen .gots hv p, fun e' => ?_, h.notS hg, h.lt hg, hr, hv0, fun b hb => ?_⟩
  · rw [h.cell .gots hv p (by show p < s.n * 1; omega)]
    show ((List.range s.n).map fun p => V (.got p))[p]? = _
    simp [hp]
  · subst e'; exact h.tne hg
  · have hb' : (s.rows s.n V (.got p)).v.ownBlock = some b := by rw [e]; exact hb
    refine ⟨h.lt hb', h.notS hb', fun e' => ?_, fun e' => ?_⟩
    · subst e'; exact h.tne hb'
    · subst e'; exact h.ne (j := .gots) (by simp) hb' hg

/-! ### Stores -/
theorem CAt.setHad {b c p q : Nat} (h : CAt S w t s V tag) (hp : p < s.n) (hv : V (.had p) = .slice (some ⟨b, 0, none⟩) s.n c) (hq : q < s.n) (x : Int) :
    CAt S (w.setCell ⟨b, q, none⟩ (.int .i64 x)) t { s with had := put2 s.had p q x } V tag := by
  have e := s.rowsH s.n V hp
  refine (h.setRow (.had p) (g := b) (n := s.n) (cap := c) (by rw [e]; exact hv) q (.int .i64 x)).congr rfl fun i => ?_
  cases i with
  | notes => rw [upd_ne _ _ (by simp)]; rfl
  | hads => rw [upd_ne _ _ (by simp)]; rfl
  | gots => rw [upd_ne _ _ (by simp)]; rfl
  | vec k => rw [upd_ne _ _ (by simp)]; rfl
  | got a => rw [upd_ne _ _ (by simp)]; rfl
  | had a =>
    by_cases ea : a = p
    · subst ea
      rw [upd_self, e]
      refine Eq.trans ?_ (CNet.rowsH { s with had := put2 s.had a q x } s.n V hp).symm
      have := map_range_set (fun j => Value.int .i64 (s.had a j)) s.n q (.int .i64 x) hq
      show (⟨_, _, _, _, ((List.range s.n).map fun j => Value.int .i64 (s.had a j)).set q _⟩ : Sl) = ⟨_, _, _, _, (List.range s.n).map fun j => Value.int .i64 (put2 s.had a q x a j)⟩
      rw [this]
      have e2 : (fun j => if j = q then Value.int .i64 x else Value.int .i64 (s.had a j)) = fun j => Value.int .i64 (put2 s.had a q x a j) := funext fun j => by
        by_cases ej : j = q
        · subst ej; rw [if_pos rfl, put2_self]
        · rw [if_neg ej, put2_ne _ _ (.inr ej)]
      rw [e2]
    · rw [upd_ne _ _ (by simp [ea])]
      show (if a < s.n then _ else _) = (if a < s.n then (⟨_, _, _, _, (List.range s.n).map fun j => Value.int .i64 (put2 s.had p q x a j)⟩ : Sl) else _)
      have e2 : (fun j => Value.int .i64 (put2 s.had p q x a j)) = fun j => Value.int .i64 (s.had a j) := funext fun j => by rw [put2_ne _ _ (.inl ea)]
      rw [e2]

/-- What a node got is another list, and stored. -/
theorem CAt.setGot {g cap p : Nat} (h : CAt S w t s V tag) (hg : V .gots = .slice (some ⟨g, 0, none⟩) s.n cap) (hp : p < s.n) (hc : Chg (fun b => (V (.got p)).ownBlock = some b) w w1)
    (v : Value) (l : List Int) (ho : w1.ownsRow 0 3 1 v l.length (l.map (.int .i64))) (hb : ∀ b, v.ownBlock = some b → (V (.got p)).ownBlock = some b ∨ w.heap.size ≤ b) :
    CAt S (w1.setCell ⟨g, p, none⟩ v) t { s with got := put1 s.got p l } (upd V (.got p) v) (mark tag v.ownBlock (Ix.got p)) := by
  have eG := s.rowsG s.n V hp
  have h2 := Mem.newRow h (.got p) (by rw [eG]; exact hc) 3 1 v l.length (l.map (.int .i64)) ho (by rw [eG]; exact hb)
  have h3 := h2.setRow .gots (g := g) (n := s.n) (cap := cap) (by rw [upd_ne _ _ (by simp)]; exact hg) p v
  refine h3.congr (by unfold ctop; rw [upd_ne V _ (by simp), upd_ne V _ (by simp), upd_ne V _ (by simp)]) fun i => ?_
  cases i with
  | notes =>
    rw [upd_ne _ _ (by simp), upd_ne _ _ (by simp)]
    show (⟨_, _, V .notes, _, grid s.m 2 (s.cell V)⟩ : Sl) = ⟨_, _, upd V (.got p) v .notes, _, grid s.m 2 (CNet.cell _ (upd V (.got p) v))⟩
    rw [upd_ne V _ (by simp)]
    have : CNet.cell { s with got := put1 s.got p l } (upd V (.got p) v) = s.cell V := funext fun k => funext fun c => by
      unfold CNet.cell; rw [upd_ne V _ (by simp)]
    rw [this]
  | hads =>
    rw [upd_ne _ _ (by simp), upd_ne _ _ (by simp)]
    show (⟨_, _, V .hads, _, _⟩ : Sl) = ⟨_, _, upd V (.got p) v .hads, _, (List.range s.n).map fun k => upd V (.got p) v (.had k)⟩
    rw [upd_ne V _ (by simp)]
    have : (fun k => upd V (.got p) v (.had k)) = fun k => V (.had k) := funext fun k => upd_ne V _ (by simp)
    rw [this]
  | vec a =>
    rw [upd_ne _ _ (by simp), upd_ne _ _ (by simp)]
    show (if a < s.m then _ else _) = (if a < s.m then (⟨_, _, upd V (.got p) v (.vec a), _, _⟩ : Sl) else _)
    rw [upd_ne V _ (by simp)]
  | had a =>
    rw [upd_ne _ _ (by simp), upd_ne _ _ (by simp)]
    show (if a < s.n then _ else _) = (if a < s.n then (⟨_, _, upd V (.got p) v (.had a), _, _⟩ : Sl) else _)
    rw [upd_ne V _ (by simp)]
  | gots =>
    rw [upd_self, upd_ne _ _ (by simp)]
    have := map_range_set (fun j => V (.got j)) s.n p v hp
    show (⟨_, _, V .gots, _, ((List.range s.n).map fun j => V (.got j)).set p v⟩ : Sl) = ⟨_, _, upd V (.got p) v .gots, _, (List.range s.n).map fun j => upd V (.got p) v (.got j)⟩
    rw [this, upd_ne V _ (by simp)]
    congr 1
    apply List.map_congr_left
    intro j _
    by_cases ej : j = p
    · subst ej; rw [if_pos rfl, upd_self]
    · rw [if_neg ej, upd_ne V _ (by simp [ej])]
  | got q =>
    rw [upd_ne _ _ (by simp)]
    by_cases e : q = p
    · subst e
      rw [upd_self]
      refine Eq.trans ?_ (CNet.rowsG { s with got := put1 s.got q l } s.n (upd V (.got q) v) hp).symm
      rw [upd_self]
      show _ = (⟨_, _, _, (put1 s.got q l q).length, (put1 s.got q l q).map _⟩ : Sl)
      rw [put1_self]
    · rw [upd_ne _ _ (by simp [e])]
      show (if q < s.n then _ else _) = (if q < s.n then (⟨_, _, upd V (.got p) v (.got q), (put1 s.got p l q).length, (put1 s.got p l q).map _⟩ : Sl) else _)
      rw [upd_ne V _ (by simp [e]), put1_ne _ _ e]

/-- One note more. -/
def addV (V : Ix → Value) (m : Nat) (r v : Value) : Ix → Value
  | .notes => v
  | .hads => V .hads
  | .gots => V .gots
  | .vec k => if k = m then r else V (.vec k)
  | .had p => V (.had p)
  | .got p => V (.got p)

theorem grid_snoc (n k : Nat) (f f' : Nat → Nat → Value) (h : ∀ p c, p < n → c < k → f' p c = f p c) (us : List Value) (hu : us.length = k) (h2 : ∀ c, c < k → us[c]? = some (f' n c)) : grid n k f ++ us = grid (n + 1) k f' := by
  apply List.ext_getElem?
  intro j
  by_cases hj : j < n * k
  · have hk : 0 < k := Nat.pos_of_ne_zero fun e => by subst e; simp at hj
    rw [List.getElem?_append_left (by rw [grid_length]; exact hj)]
    have hj2 : j < (n + 1) * k := by rw [Nat.succ_mul]; omega
    simp only [grid, List.getElem?_map, List.getElem?_range hj, List.getElem?_range hj2, Option.map_some]
    rw [h _ _ (by rw [Nat.div_lt_iff_lt_mul hk]; exact hj) (Nat.mod_lt _ hk)]
  · rw [List.getElem?_append_right (by rw [grid_length]; omega), grid_length]
    by_cases hj2 : j < (n + 1) * k
    · have hk : 0 < k := Nat.pos_of_ne_zero fun e => by subst e; simp at hj2
      have hc : j - n * k < k := by rw [Nat.succ_mul] at hj2; omega
      rw [h2 _ hc]
      simp only [grid, List.getElem?_map, List.getElem?_range hj2, Option.map_some]
      have e1 : j = k * n + (j - n * k) := by rw [Nat.mul_comm k n]; omega
      have e2 : j / k = n := by rw [e1, Nat.mul_add_div hk, Nat.div_eq_of_lt hc, Nat.add_zero]
      have e3 : j % k = j - n * k := by
        generalize hcc : j - n * k = c at *
        rw [e1, Nat.mul_add_mod, Nat.mod_eq_of_lt hc]
      rw [e2, e3]
    · rw [List.getElem?_eq_none (by rw [hu]; rw [Nat.succ_mul] at hj2; omega), List.getElem?_eq_none (by rw [grid_length]; omega)]

theorem CAt.addNote {w2 : World} {p : Nat} (h : CAt S w t s V tag) (hc0 : Chg NoF w w1) (r : Value) (hr : w1.ownsRow 0 3 1 r s.n ((List.range s.n).map fun q => .int .i64 (s.had p q))) (hrb : ∀ b, r.ownBlock = some b → w.heap.size ≤ b)
    (hc : Chg (fun b => (V .notes).ownBlock = some b) w1 w2) (v : Value) (ho : w2.ownsRow 0 56 2 v (s.m + 1) (grid s.m 2 (s.cell V) ++ [.int .i64 p, r]))
    (hb : ∀ b, v.ownBlock = some b → (V .notes).ownBlock = some b ∨ w1.heap.size ≤ b) : ∃ tag', CAt S (w2.setCell ⟨t, 0, none⟩ v) t (s.note p) (addV V s.m r v) tag' := by
  have eR : s.rows s.n V (.vec s.m) = Sl.none := if_neg (by omega)
  have h1 := Mem.newRow h (.vec s.m) (w1 := w1) (by rw [eR]; exact hc0.mono fun _ _ => False.elim) 3 1 r s.n _ hr (fun b hb => .inr (hrb b hb))
  have h2 := h1.newRow .notes (w1 := w2) (by rw [upd_ne _ _ (by simp)]; exact hc) 56 2 v (s.m + 1) _ ho (by rw [upd_ne _ _ (by simp)]; exact hb)
  have h3 := h2.setTop 0 v
  refine ⟨_, h3.congr rfl fun i => ?_⟩
  cases i with
  | hads => rw [upd_ne _ _ (by simp), upd_ne _ _ (by simp)]; rfl
  | gots => rw [upd_ne _ _ (by simp), upd_ne _ _ (by simp)]; rfl
  | got p => rw [upd_ne _ _ (by simp), upd_ne _ _ (by simp)]; rfl
  | had p => rw [upd_ne _ _ (by simp), upd_ne _ _ (by simp)]; rfl
  | notes =>
    rw [upd_self]
    show _ = (⟨_, _, v, _, grid (s.m + 1) 2 (CNet.cell (s.note p) (addV V s.m r v))⟩ : Sl)
    rw [grid_snoc s.m 2 (s.cell V) (CNet.cell (s.note p) (addV V s.m r v))]
    · rfl
    · intro k c hk _
      unfold CNet.cell
      show (if c = 0 then Value.int .i64 ((put1 s.bys s.m p k : Nat) : Int) else if k = s.m then r else V (.vec k)) = _
      rw [put1_ne _ _ (by omega), if_neg (show ¬ k = s.m by omega)]
    · rfl
    · intro c hc
      have : c = 0 ∨ c = 1 := by omega
      rcases this with rfl | rfl
      · show some (Value.int .i64 p) = some (Value.int .i64 ((put1 s.bys s.m p s.m : Nat) : Int)); rw [put1_self]
      · show some r = some (if s.m = s.m then r else V (.vec s.m)); rw [if_pos rfl]
  | vec k =>
    by_cases e : k = s.m
    · subst e
      rw [upd_ne _ _ (by simp), upd_self]
      refine Eq.trans ?_ (CNet.rowsV (s.note p) s.n (addV V s.m r v) (show s.m < s.m + 1 by omega)).symm
      show _ = (⟨_, _, if s.m = s.m then r else V (.vec s.m), s.n, (List.range s.n).map fun q => Value.int .i64 (if s.m = s.m then s.had p q else s.vec s.m q)⟩ : Sl)
      simp only [if_true]
    · rw [upd_ne _ _ (by simp), upd_ne _ _ (by simp [e])]
      show (if k < s.m then _ else _) = (if k < s.m + 1 then (⟨_, _, if k = s.m then r else V (.vec k), s.n, (List.range s.n).map fun q => Value.int .i64 (if k = s.m then s.had p q else s.vec k q)⟩ : Sl) else _)
      simp only [if_neg e]
      by_cases hk : k < s.m
      · rw [if_pos hk, if_pos (show k < s.m + 1 by omega)]
      · rw [if_neg hk, if_neg (show ¬ k < s.m + 1 by omega)]

theorem CIn.keep (h : CIn S w t s) (hc : Chg NoF w w1) : CIn S w1 t s := by
  obtain ⟨V, tag, h⟩ := h
  exact ⟨V, tag, Mem.more h hc⟩
theorem CIn.mono {S' : Nat → Prop} (h : CIn S w t s) (hS : ∀ b, S' b → S b) : CIn S' w t s := by
  obtain ⟨V, tag, h⟩ := h
  exact ⟨V, tag, ⟨fun b hb => h.hS b (hS b hb), h.ht, h.blk, h.row, h.tg⟩⟩

end
end Go.Proofs.YtiakkhahohhpaaaDoor
