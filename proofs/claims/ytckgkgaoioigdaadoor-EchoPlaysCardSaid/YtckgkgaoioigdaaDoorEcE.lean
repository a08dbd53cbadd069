/-
  The wave that comes back: how it lies in memory, and what stores do to it.
  Conditions: none beyond those of each lemma.
-/
import Derived.Test.YtckgkgaoioigdaaDoorEcD
namespace Go.Proofs.YtckgkgaoioigdaaDoor
open Go Go.RowKit

inductive Ix where
  | near
  | parent
  | heard
  | ways
  | row (p : Nat)
  deriving DecidableEq

def Wv.top (s : Wv) (V : Ix → Value) : List Value := [V .near, V .parent, V .heard, V .ways, .int .i64 s.sent, .bool s.done]
def Wv.rows (s : Wv) (m : Nat) (V : Ix → Value) : Ix → Sl
  | .near => ⟨3, 1, V .near, s.n, (List.range s.n).map fun p => .int .i64 (s.near p)⟩
  | .parent => ⟨3, 1, V .parent, s.n, (List.range s.n).map fun p => .int .i64 (s.parent p)⟩
  | .heard => ⟨3, 1, V .heard, s.n, (List.range s.n).map fun p => .int .i64 (s.heard p)⟩
  | .ways => ⟨22, 1, V .ways, m, (List.range m).map fun p => V (.row p)⟩
  | .row p => if p < m then ⟨3, 1, V (.row p), s.n, (List.range s.n).map fun q => .int .i64 (s.ways p q)⟩ else Sl.none

def WAt (S : Nat → Prop) (w : World) (t : Nat) (s : Wv) (m : Nat) (V : Ix → Value) (tag : Nat → Option (Option Ix)) : Prop := Mem S w t (s.top V) (s.rows m V) tag
def WIn (S : Nat → Prop) (w : World) (t : Nat) (s : Wv) : Prop := ∃ V tag, WAt S w t s s.n V tag

section
variable {S : Nat → Prop} {w w1 : World} {t : Nat} {s : Wv} {m : Nat} {V : Ix → Value} {tag : Nat → Option (Option Ix)}

theorem Wv.rowsR (s : Wv) (m : Nat) (V : Ix → Value) {p : Nat} (hp : p < m) : s.rows m V (.row p) = ⟨3, 1, V (.row p), s.n, (List.range s.n).map fun q => .int .i64 (s.ways p q)⟩ := if_pos hp
theorem Wv.rowsR0 (s : Wv) (m : Nat) (V : Ix → Value) {p : Nat} (hp : ¬ p < m) : s.rows m V (.row p) = Sl.none := if_neg hp

theorem WAt.nearAt (h : WAt S w t s m V tag) (hn : 0 < s.n) : ∃ b c, V .near = .slice (some ⟨b, 0, none⟩) s.n c ∧ (∀ p, p < s.n → w.cell? ⟨b, p, none⟩ = some (.int .i64 (s.near p))) ∧ b ≠ t ∧ w.cell? ⟨t, 0, none⟩ = some (.slice (some ⟨b, 0, none⟩) s.n c) := by
  obtain ⟨b, c, hv, hb, hlt, _⟩ := h.val .near hn
  have hv' : V .near = .slice (some ⟨b, 0, none⟩) s.n c := hv
  refine ⟨b, c, hv, fun p hp => ?_, fun e' => ?_, by rw [← hv']; exact h.blk.cell 0⟩
  · rw [h.cell .near hv p (by show p < s.n * 1; omega)]
    show ((List.range s.n).map fun p => Value.int .i64 (s.near p))[p]? = _
    simp [hp]
  · subst e'; exact h.tne hb
theorem WAt.parentAt (h : WAt S w t s m V tag) (hn : 0 < s.n) : ∃ b c, V .parent = .slice (some ⟨b, 0, none⟩) s.n c ∧ (∀ p, p < s.n → w.cell? ⟨b, p, none⟩ = some (.int .i64 (s.parent p))) ∧ (∀ j, w.frozen? ⟨b, j, none⟩ = false) ∧ b ≠ t ∧ ¬ S b ∧ w.cell? ⟨t, 1, none⟩ = some (.slice (some ⟨b, 0, none⟩) s.n c) := by
  obtain ⟨b, c, hv, hb, hlt, _⟩ := h.val .parent hn
  have hv' : V .parent = .slice (some ⟨b, 0, none⟩) s.n c := hv
  refine ⟨b, c, hv, fun p hp => ?_, h.frozen .parent hv, fun e' => ?_, h.notS hb, by rw [← hv']; exact h.blk.cell 1⟩
  · rw [h.cell .parent hv p (by show p < s.n * 1; omega)]
    show ((List.range s.n).map fun p => Value.int .i64 (s.parent p))[p]? = _
    simp [hp]
  · subst e'; exact h.tne hb
theorem WAt.heardAt (h : WAt S w t s m V tag) (hn : 0 < s.n) : ∃ b c, V .heard = .slice (some ⟨b, 0, none⟩) s.n c ∧ (∀ p, p < s.n → w.cell? ⟨b, p, none⟩ = some (.int .i64 (s.heard p))) ∧ (∀ j, w.frozen? ⟨b, j, none⟩ = false) ∧ b ≠ t ∧ ¬ S b ∧ w.cell? ⟨t, 2, none⟩ = some (.slice (some ⟨b, 0, none⟩) s.n c) := by
  obtain ⟨b, c, hv, hb, hlt, _⟩ := h.val .heard hn
  have hv' : V .heard = .slice (some ⟨b, 0, none⟩) s.n c := hv
  refine ⟨b, c, hv, fun p hp => ?_, h.frozen .heard hv, fun e' => ?_, h.notS hb, by rw [← hv']; exact h.blk.cell 2⟩
  · rw [h.cell .heard hv p (by show p < s.n * 1; omega)]
    show ((List.range s.n).map fun p => Value.int .i64 (s.heard p))[p]? = _
    simp [hp]
  · subst e'; exact h.tne hb
/-- The ways of a node. -/
theorem WAt.wayAt (h : WAt S w t s m V tag) {p : Nat} (hp : p < m) (hn : 0 < s.n) : ∃ g cap b c, V .ways = .slice (some ⟨g, 0, none⟩) m cap ∧ V (.row p) = .slice (some ⟨b, 0, none⟩) s.n c ∧
    w.cell? ⟨t, 3, none⟩ = some (.slice (some ⟨g, 0, none⟩) m cap) ∧ w.cell? ⟨g, p, none⟩ = some (.slice (some ⟨b, 0, none⟩) s.n c) ∧ (∀ q, q < s.n → w.cell? ⟨b, q, none⟩ = some (.int .i64 (s.ways p q))) ∧ (∀ j, w.frozen? ⟨b, j, none⟩ = false) ∧ b ≠ t ∧ g ≠ b ∧ ¬ S b := by
  obtain ⟨g, cap, hv, hgb, hlt, _⟩ := h.val .ways (show 0 < m by omega)
  have hv0 : V .ways = .slice (some ⟨g, 0, none⟩) m cap := hv
  have e := s.rowsR m V hp
  obtain ⟨b, c, hv', hb, _, _⟩ := h.val (.row p) (show 0 < (s.rows m V (.row p)).n by rw [e]; exact hn)
  have hf := h.frozen (.row p) hv'
  have hcell := fun q hq => h.cell (.row p) hv' q hq
  have hne := h.ne (j := .ways) (by simp) hb
  rw [e] at hv' hcell
  refine ⟨g, cap, b, c, hv0, hv', by rw [← hv0]; exact h.blk.cell 3, ?_, fun q hq => ?_, hf, fun e' => ?_, fun e' => ?_, h.notS hb⟩
  · rw [h.cell .ways hv p (by show p < m * 1; omega), ← hv']
    show ((List.range m).map fun p => V (.row p))[p]? = _
    simp [hp]
  · rw [hcell q (by show q < s.n * 1; omega)]; simp [hq]
  · subst e'; exact h.tne hb
  · subst e'; exact hne hgb

/-! ### Stores -/
theorem map_put {n p : Nat} (f : Nat → Int) (x : Int) (hp : p < n) : ((List.range n).map fun j => Value.int .i64 (f j)).set p (.int .i64 x) = (List.range n).map fun j => Value.int .i64 (put1 f p x j) := by
  rw [map_range_set (fun j => Value.int .i64 (f j)) n p (.int .i64 x) hp]
  apply List.map_congr_left
  intro j _
  by_cases ej : j = p
  · subst ej; rw [if_pos rfl, put1_self]
  · rw [if_neg ej, put1_ne _ _ ej]

theorem WAt.setParent {b c p : Nat} (h : WAt S w t s m V tag) (hv : V .parent = .slice (some ⟨b, 0, none⟩) s.n c) (hp : p < s.n) (x : Int) :
    WAt S (w.setCell ⟨b, p, none⟩ (.int .i64 x)) t { s with parent := put1 s.parent p x } m V tag := by
  refine (h.setRow .parent hv p (.int .i64 x)).congr rfl fun i => ?_
  cases i with
  | parent =>
    rw [upd_self]
    show (⟨_, _, _, _, ((List.range s.n).map fun j => Value.int .i64 (s.parent j)).set p _⟩ : Sl) = _
    rw [map_put _ _ hp]; rfl
  | near => rw [upd_ne _ _ (by simp)]; rfl
  | heard => rw [upd_ne _ _ (by simp)]; rfl
  | ways => rw [upd_ne _ _ (by simp)]; rfl
  | row q => rw [upd_ne _ _ (by simp)]; rfl

theorem WAt.setHeard {b c p : Nat} (h : WAt S w t s m V tag) (hv : V .heard = .slice (some ⟨b, 0, none⟩) s.n c) (hp : p < s.n) (x : Nat) :
    WAt S (w.setCell ⟨b, p, none⟩ (.int .i64 x)) t { s with heard := put1 s.heard p x } m V tag := by
  refine (h.setRow .heard hv p (.int .i64 x)).congr rfl fun i => ?_
  cases i with
  | heard =>
    rw [upd_self]
    show (⟨_, _, _, _, ((List.range s.n).map fun j => Value.int .i64 ((s.heard j : Nat) : Int)).set p _⟩ : Sl) = _
    rw [map_put (fun j => ((s.heard j : Nat) : Int)) _ hp]
    have e : (fun j => Value.int .i64 (put1 (fun j => ((s.heard j : Nat) : Int)) p x j)) = fun j => Value.int .i64 ((put1 s.heard p x j : Nat) : Int) := by
      funext j
      by_cases ej : j = p
      · subst ej; rw [put1_self, put1_self]
      · rw [put1_ne _ _ ej, put1_ne _ _ ej]
    rw [e]; rfl
  | near => rw [upd_ne _ _ (by simp)]; rfl
  | parent => rw [upd_ne _ _ (by simp)]; rfl
  | ways => rw [upd_ne _ _ (by simp)]; rfl
  | row q => rw [upd_ne _ _ (by simp)]; rfl

theorem WAt.setWay {b c p q : Nat} (h : WAt S w t s m V tag) (hp : p < m) (hv : V (.row p) = .slice (some ⟨b, 0, none⟩) s.n c) (hq : q < s.n) (x : Int) :
    WAt S (w.setCell ⟨b, q, none⟩ (.int .i64 x)) t { s with ways := put2 s.ways p q x } m V tag := by
  have e := s.rowsR m V hp
  refine (h.setRow (.row p) (g := b) (n := s.n) (cap := c) (by rw [e]; exact hv) q (.int .i64 x)).congr rfl fun i => ?_
  cases i with
  | near => rw [upd_ne _ _ (by simp)]; rfl
  | parent => rw [upd_ne _ _ (by simp)]; rfl
  | heard => rw [upd_ne _ _ (by simp)]; rfl
  | ways => rw [upd_ne _ _ (by simp)]; rfl
  | row a =>
    by_cases ea : a = p
    · subst ea
      rw [upd_self, e]
      refine Eq.trans ?_ (Wv.rowsR { s with ways := put2 s.ways a q x } m V hp).symm
      simp only []
      rw [map_put _ _ hq]
      have : (fun j => Value.int .i64 (put1 (s.ways a) q x j)) = fun j => Value.int .i64 (put2 s.ways a q x a j) := by
        funext j
        by_cases ej : j = q
        · subst ej; rw [put1_self, put2_self]
        · rw [put1_ne _ _ ej, put2_ne _ _ (.inr ej)]
      rw [this]
    · rw [upd_ne _ _ (by simp [ea])]
      show (if a < m then _ else _) = (if a < m then (⟨_, _, _, _, (List.range s.n).map fun j => Value.int .i64 (put2 s.ways p q x a j)⟩ : Sl) else _)
      have : (fun j => Value.int .i64 (put2 s.ways p q x a j)) = fun j => Value.int .i64 (s.ways a j) := funext fun j => by rw [put2_ne _ _ (.inl ea)]
      rw [this]

theorem WAt.setSent (h : WAt S w t s m V tag) (x : Int) : WAt S (w.setCell ⟨t, 4, none⟩ (.int .i64 x)) t { s with sent := x } m V tag :=
  (h.setTop 4 (.int .i64 x)).congr rfl fun i => by cases i <;> rfl
theorem WAt.setDone (h : WAt S w t s m V tag) (x : Bool) : WAt S (w.setCell ⟨t, 5, none⟩ (.bool x)) t { s with done := x } m V tag :=
  (h.setTop 5 (.bool x)).congr rfl fun i => by cases i <;> rfl

theorem WIn.keep (h : WIn S w t s) (hc : Chg NoF w w1) : WIn S w1 t s := by
  obtain ⟨V, tag, h⟩ := h
  exact ⟨V, tag, Mem.more h hc⟩
theorem WIn.mono {S' : Nat → Prop} (h : WIn S w t s) (hS : ∀ b, S' b → S b) : WIn S' w t s := by
  obtain ⟨V, tag, h⟩ := h
  exact ⟨V, tag, ⟨fun b hb => h.hS b (hS b hb), h.ht, h.blk, h.row, h.tg⟩⟩

end

/-- rank is told of nobody. -/
theorem WIn.rank {S : Nat → Prop} {w : World} {t : Nat} {s s' : Wv} (h : WIn S w t s) (e1 : s'.n = s.n) (e2 : s'.near = s.near) (e3 : s'.parent = s.parent) (e4 : s'.heard = s.heard) (e5 : s'.ways = s.ways) (e6 : s'.sent = s.sent) (e7 : s'.done = s.done) : WIn S w t s' := by
  obtain ⟨V, tag, h⟩ := h
  refine ⟨V, tag, Mem.congr h (by unfold Wv.top; rw [e6, e7]) fun i => ?_⟩
  cases i <;> simp only [Wv.rows, e1, e2, e3, e4, e5]

end Go.Proofs.YtckgkgaoioigdaaDoor
