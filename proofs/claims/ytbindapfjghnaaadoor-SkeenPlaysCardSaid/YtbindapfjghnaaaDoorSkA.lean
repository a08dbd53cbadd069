/-
  The net that tells all the same in the same order: how it lies in memory, and what stores do to it.
  Conditions: a net as New made it.
-/
import Derived.Test.YtbindapfjghnaaaDoorSkMath2
import Derived.Test.YtbindapfjghnaaaDoorMem
import Derived.Test.YtbindapfjghnaaaDoorRegion2
import Derived.Test.YtbindapfjghnaaaDoorSame
namespace Go.Proofs.YtbindapfjghnaaaDoor
open Go Go.RowKit

inductive Ix where
  | clk
  | ats
  | gots
  | note (k : Nat)
  | got (p : Nat)
  deriving DecidableEq

def SNet.cell (s : SNet) (k p c : Nat) : Value := if c = 0 then .int .i64 (s.tm k p) else if c = 1 then .bool (s.here k p) else .bool (s.fix k p)
def stop (V : Ix → Value) : List Value := [V .clk, V .ats, V .gots]
def SNet.rows (s : SNet) (V : Ix → Value) : Ix → Sl
  | .clk => ⟨3, 1, V .clk, s.n, (List.range s.n).map fun p => .int .i64 (s.clk p)⟩
  | .ats => ⟨52, 1, V .ats, s.m, (List.range s.m).map fun k => V (.note k)⟩
  | .gots => ⟨29, 1, V .gots, s.n, (List.range s.n).map fun p => V (.got p)⟩
  | .note k => if k < s.m then ⟨58, 3, V (.note k), s.n, grid s.n 3 (s.cell k)⟩ else Sl.none
  | .got p => if p < s.n then ⟨3, 1, V (.got p), (s.got p).length, (s.got p).map (.int .i64)⟩ else Sl.none

def SAt (S : Nat → Prop) (w : World) (t : Nat) (s : SNet) (V : Ix → Value) (tag : Nat → Option (Option Ix)) : Prop := Mem S w t (stop V) (s.rows V) tag
/-- g: where the slices of what each node had lie. -/
def SIn (S : Nat → Prop) (w : World) (t g : Nat) (s : SNet) : Prop := ∃ V tag, (∃ cap, V .gots = .slice (some ⟨g, 0, none⟩) s.n cap) ∧ SAt S w t s V tag

section
variable {S : Nat → Prop} {w w1 : World} {t : Nat} {s : SNet} {V : Ix → Value} {tag : Nat → Option (Option Ix)}

theorem SNet.rowsA (s : SNet) (V : Ix → Value) {k : Nat} (hk : k < s.m) : s.rows V (.note k) = ⟨58, 3, V (.note k), s.n, grid s.n 3 (s.cell k)⟩ := if_pos hk
theorem SNet.rowsG (s : SNet) (V : Ix → Value) {p : Nat} (hp : p < s.n) : s.rows V (.got p) = ⟨3, 1, V (.got p), (s.got p).length, (s.got p).map (.int .i64)⟩ := if_pos hp
theorem SNet.rowsA0 (s : SNet) (V : Ix → Value) {k : Nat} (hk : ¬ k < s.m) : s.rows V (.note k) = Sl.none := if_neg hk
theorem SNet.rowsG0 (s : SNet) (V : Ix → Value) {p : Nat} (hp : ¬ p < s.n) : s.rows V (.got p) = Sl.none := if_neg hp

/-- The clocks. -/
theorem SAt.clkAt (h : SAt S w t s V tag) (hn : 0 < s.n) : ∃ b c, V .clk = .slice (some ⟨b, 0, none⟩) s.n c ∧ (∀ p, p < s.n → w.cell? ⟨b, p, none⟩ = some (.int .i64 (s.clk p))) ∧ (∀ j, w.frozen? ⟨b, j, none⟩ = false) ∧ b ≠ t ∧ ¬ S b ∧ w.cell? ⟨t, 0, none⟩ = some (.slice (some ⟨b, 0, none⟩) s.n c) := by
  obtain ⟨b, c, hv, hb, hlt, _⟩ := h.val .clk hn
  have hv' : V .clk = .slice (some ⟨b, 0, none⟩) s.n c := hv
  refine ⟨b, c, hv, fun p hp => ?_, h.frozen .clk hv, fun e' => ?_, h.notS hb, ?_⟩
  · rw [h.cell .clk hv p (by show p < s.n * 1; omega)]
    show ((List.range s.n).map fun p => Value.int .i64 (s.clk p))[p]? = _
    simp [hp]
  · subst e'; exact h.tne hb
  · rw [← hv']; exact h.blk.cell 0

/-- A note's states. -/
theorem SAt.atAt (h : SAt S w t s V tag) {k : Nat} (hk : k < s.m) (hn : 0 < s.n) : ∃ g cap b c, V .ats = .slice (some ⟨g, 0, none⟩) s.m cap ∧ V (.note k) = .slice (some ⟨b, 0, none⟩) s.n c ∧
    w.cell? ⟨t, 1, none⟩ = some (.slice (some ⟨g, 0, none⟩) s.m cap) ∧ w.cell? ⟨g, k, none⟩ = some (.slice (some ⟨b, 0, none⟩) s.n c) ∧
    (∀ p, p < s.n → w.cell? ⟨b, p * 3, none⟩ = some (.int .i64 (s.tm k p)) ∧ w.cell? ⟨b, p * 3 + 1, none⟩ = some (.bool (s.here k p)) ∧ w.cell? ⟨b, p * 3 + 2, none⟩ = some (.bool (s.fix k p))) ∧
    (∀ j, w.frozen? ⟨b, j, none⟩ = false) ∧ b ≠ t ∧ g ≠ t ∧ g ≠ b ∧ ¬ S b ∧ (V .clk).ownBlock ≠ some b := by
  obtain ⟨g, cap, hv, hgb, hlt, _⟩ := h.val .ats (show 0 < s.m by omega)
  have hv0 : V .ats = .slice (some ⟨g, 0, none⟩) s.m cap := hv
  have e := s.rowsA V hk
  obtain ⟨b, c, hv', hb, _, _⟩ := h.val (.note k) (show 0 < (s.rows V (.note k)).n by rw [e]; exact hn)
  have hf := h.frozen (.note k) hv'
  have hcell := fun q hq => h.cell (.note k) hv' q hq
  have hne := h.ne (j := .ats) (by simp) hb
  have hne2 := h.ne (j := .clk) (by simp) hb
  rw [e] at hv' hcell
  have hc : ∀ p c, p < s.n → c < 3 → w.cell? ⟨b, p * 3 + c, none⟩ = some (s.cell k p c) := fun p c hp hc => by
    rw [hcell _ (by show p * 3 + c < s.n * 3; omega)]
    exact grid_get s.n 3 (s.cell k) hp hc
  refine ⟨g, cap, b, c, hv0, hv', ?_, ?_, fun p hp => ⟨hc p 0 hp (by omega), hc p 1 hp (by omega), hc p 2 hp (by omega)⟩, hf, fun e' => ?_, fun e' => ?_, fun e' => ?_, h.notS hb, hne2⟩
  · rw [← hv0]; exact h.blk.cell 1
  · rw [h.cell .ats hv k (by show k < s.m * 1; omega), ← hv']
    show ((List.range s.m).map fun k => V (.note k))[k]? = _
    simp [hk]
  · subst e'; exact h.tne hb
  · subst e'; exact h.tne hgb
  · subst e'; exact hne hgb

/-- How many notes there are. -/
theorem SAt.atsAt (h : SAt S w t s V tag) : w.ownsRow 0 52 1 (V .ats) s.m ((List.range s.m).map fun k => V (.note k)) ∧ w.cell? ⟨t, 1, none⟩ = some (V .ats) ∧ (∀ b, (V .ats).ownBlock = some b → b < w.heap.size ∧ ¬ S b ∧ b ≠ t ∧ (V .clk).ownBlock ≠ some b) ∧ ∃ a c, V .ats = .slice a s.m c := by
  refine ⟨h.row .ats, h.blk.cell 1, fun b hb => ?_, h.val0 .ats⟩
  have hb' : (s.rows V .ats).v.ownBlock = some b := hb
  refine ⟨h.lt hb', h.notS hb', fun e => ?_, h.ne (j := .clk) (by simp) hb'⟩
  subst e; exact h.tne hb'

/-- What a node had. -/
theorem SAt.gotAt {g cap p : Nat} (h : SAt S w t s V tag) (hv : V .gots = .slice (some ⟨g, 0, none⟩) s.n cap) (hp : p < s.n) : w.cell? ⟨t, 2, none⟩ = some (.slice (some ⟨g, 0, none⟩) s.n cap) ∧ w.cell? ⟨g, p, none⟩ = some (V (.got p)) ∧ w.frozen? ⟨g, p, none⟩ = false ∧ g ≠ t ∧ ¬ S g ∧ g < w.heap.size ∧
    w.ownsRow 0 3 1 (V (.got p)) (s.got p).length ((s.got p).map (.int .i64)) ∧ (∃ a c, V (.got p) = .slice a (s.got p).length c) ∧ (∀ b, (V (.got p)).ownBlock = some b → b < w.heap.size ∧ ¬ S b ∧ b ≠ t ∧ b ≠ g) := by
  have e := s.rowsG V hp
  have hg : (s.rows V .gots).v.ownBlock = some g := by show (V .gots).ownBlock = _; rw [hv]; rfl
  have hr := h.row (.got p)
  have hv0 := h.val0 (.got p)
  rw [e] at hr hv0
  refine ⟨by rw [← hv]; exact h.blk.cell 2, ?_, h.frozen .gots hv p, fun e' => ?_, h.notS hg, h.lt hg, hr, hv0, fun b hb => ?_⟩
  · rw [h.cell .gots hv p (by show p < s.n * 1; omega)]
    show ((List.range s.n).map fun p => V (.got p))[p]? = _
    simp [hp]
  · subst e'; exact h.tne hg
  · have hb' : (s.rows V (.got p)).v.ownBlock = some b := by rw [e]; exact hb
    refine ⟨h.lt hb', h.notS hb', fun e' => ?_, fun e' => ?_⟩
    · subst e'; exact h.tne hb'
    · subst e'; exact h.ne (j := .gots) (by simp) hb' hg

/-! ### Stores -/
theorem SAt.setClk {b c p : Nat} (h : SAt S w t s V tag) (hv : V .clk = .slice (some ⟨b, 0, none⟩) s.n c) (hp : p < s.n) (x : Int) :
    SAt S (w.setCell ⟨b, p, none⟩ (.int .i64 x)) t { s with clk := put1 s.clk p x } V tag := by
  refine (h.setRow .clk hv p (.int .i64 x)).congr rfl fun i => ?_
  cases i with
  | clk =>
    rw [upd_self]
    have := map_range_set (fun j => Value.int .i64 (s.clk j)) s.n p (.int .i64 x) hp
    show (⟨_, _, _, _, ((List.range s.n).map fun j => Value.int .i64 (s.clk j)).set p _⟩ : Sl) = ⟨_, _, _, _, (List.range s.n).map fun j => Value.int .i64 (put1 s.clk p x j)⟩
    rw [this]
    have e2 : (fun j => if j = p then Value.int .i64 x else Value.int .i64 (s.clk j)) = fun j => Value.int .i64 (put1 s.clk p x j) := funext fun j => by
      by_cases ej : j = p
      · subst ej; rw [if_pos rfl, put1_self]
      · rw [if_neg ej, put1_ne _ _ ej]
    rw [e2]; rfl
  | ats => rw [upd_ne _ _ (by simp)]; rfl
  | gots => rw [upd_ne _ _ (by simp)]; rfl
  | note k => rw [upd_ne _ _ (by simp)]; rfl
  | got q => rw [upd_ne _ _ (by simp)]; rfl

/-- One field of one state. -/
theorem SAt.setCell {b c k p d : Nat} (h : SAt S w t s V tag) (hk : k < s.m) (hv : V (.note k) = .slice (some ⟨b, 0, none⟩) s.n c) (hp : p < s.n) (hd : d < 3) (u : Value) (s' : SNet) (e1 : s'.n = s.n) (e2 : s'.m = s.m) (e3 : s'.clk = s.clk) (e4 : s'.got = s.got)
    (h0 : s'.cell k p d = u) (h1 : ∀ k' q d', d' < 3 → (k' ≠ k ∨ q ≠ p ∨ d' ≠ d) → s'.cell k' q d' = s.cell k' q d') : SAt S (w.setCell ⟨b, p * 3 + d, none⟩ u) t s' V tag := by
  have e := s.rowsA V hk
  refine (h.setRow (.note k) (g := b) (n := s.n) (cap := c) (by rw [e]; exact hv) (p * 3 + d) u).congr rfl fun i => ?_
  cases i with
  | clk => rw [upd_ne _ _ (by simp)]; unfold SNet.rows; simp only []; rw [e1, e3]
  | ats => rw [upd_ne _ _ (by simp)]; unfold SNet.rows; simp only []; rw [e2]
  | gots => rw [upd_ne _ _ (by simp)]; unfold SNet.rows; simp only []; rw [e1]
  | got q => rw [upd_ne _ _ (by simp)]; unfold SNet.rows; simp only []; rw [e1, e4]
  | note a =>
    by_cases ea : a = k
    · subst ea
      rw [upd_self, e, s'.rowsA V (by rw [e2]; exact hk), e1]
      have h3 := grid_set s.n 3 (s.cell a) hp hd u (s'.cell a) h0 (fun q d' hd' hne => h1 a q d' hd' (.inr hne))
      simp only []
      rw [h3]
    · rw [upd_ne _ _ (by simp [ea])]
      unfold SNet.rows; simp only []; rw [e1, e2]
      split
      · congr 1
        unfold grid
        refine List.map_congr_left fun j hj => ?_
        exact (h1 a _ _ (Nat.mod_lt _ (by omega)) (.inl ea)).symm
      · rfl

theorem SAt.setTm {b c k p : Nat} (h : SAt S w t s V tag) (hk : k < s.m) (hv : V (.note k) = .slice (some ⟨b, 0, none⟩) s.n c) (hp : p < s.n) (x : Int) :
    SAt S (w.setCell ⟨b, p * 3, none⟩ (.int .i64 x)) t { s with tm := put2 s.tm k p x } V tag :=
  SAt.setCell (d := 0) h hk hv hp (by omega) (.int .i64 x) _ rfl rfl rfl rfl (by show Value.int .i64 (put2 s.tm k p x k p) = _; rw [put2_self]) fun k' q d' hd' hne => by
    by_cases e : d' = 0
    · subst e; show Value.int .i64 (put2 s.tm k p x k' q) = .int .i64 (s.tm k' q); rw [put2_ne _ _ (by omega)]
    · have : d' = 1 ∨ d' = 2 := by omega
      rcases this with rfl | rfl <;> rfl

theorem SAt.setHere {b c k p : Nat} (h : SAt S w t s V tag) (hk : k < s.m) (hv : V (.note k) = .slice (some ⟨b, 0, none⟩) s.n c) (hp : p < s.n) (x : Bool) :
    SAt S (w.setCell ⟨b, p * 3 + 1, none⟩ (.bool x)) t { s with here := put2 s.here k p x } V tag :=
  SAt.setCell (d := 1) h hk hv hp (by omega) (.bool x) _ rfl rfl rfl rfl (by show Value.bool (put2 s.here k p x k p) = _; rw [put2_self]) fun k' q d' hd' hne => by
    by_cases e : d' = 1
    · subst e; show Value.bool (put2 s.here k p x k' q) = .bool (s.here k' q); rw [put2_ne _ _ (by omega)]
    · have : d' = 0 ∨ d' = 2 := by omega
      rcases this with rfl | rfl <;> rfl

theorem SAt.setFix {b c k p : Nat} (h : SAt S w t s V tag) (hk : k < s.m) (hv : V (.note k) = .slice (some ⟨b, 0, none⟩) s.n c) (hp : p < s.n) (x : Bool) :
    SAt S (w.setCell ⟨b, p * 3 + 2, none⟩ (.bool x)) t { s with fix := put2 s.fix k p x } V tag :=
  SAt.setCell (d := 2) h hk hv hp (by omega) (.bool x) _ rfl rfl rfl rfl (by show Value.bool (put2 s.fix k p x k p) = _; rw [put2_self]) fun k' q d' hd' hne => by
    by_cases e : d' = 2
    · subst e; show Value.bool (put2 s.fix k p x k' q) = .bool (s.fix k' q); rw [put2_ne _ _ (by omega)]
    · have : d' = 0 ∨ d' = 1 := by omega
      rcases this with rfl | rfl <;> rfl

/-- What a node had is another list, and stored. -/
theorem SAt.setGot {g cap p : Nat} (h : SAt S w t s V tag) (hg : V .gots = .slice (some ⟨g, 0, none⟩) s.n cap) (hp : p < s.n) (hc : Chg (fun b => (V (.got p)).ownBlock = some b) w w1)
    (v : Value) (l : List Int) (ho : w1.ownsRow 0 3 1 v l.length (l.map (.int .i64))) (hb : ∀ b, v.ownBlock = some b → (V (.got p)).ownBlock = some b ∨ w.heap.size ≤ b) :
    SAt S (w1.setCell ⟨g, p, none⟩ v) t { s with got := put1 s.got p l } (upd V (.got p) v) (mark tag v.ownBlock (Ix.got p)) := by
  have eG := s.rowsG V hp
  have h2 := h.newRow (.got p) (by rw [eG]; exact hc) 3 1 v l.length (l.map (.int .i64)) ho (by rw [eG]; exact hb)
  have h3 := h2.setRow .gots (g := g) (n := s.n) (cap := cap) (by rw [upd_ne _ _ (by simp)]; exact hg) p v
  refine h3.congr (by unfold stop; rw [upd_ne V _ (by simp), upd_ne V _ (by simp), upd_ne V _ (by simp)]) fun i => ?_
  cases i with
  | clk =>
    rw [upd_ne _ _ (by simp), upd_ne _ _ (by simp)]
    show (⟨_, _, V .clk, _, _⟩ : Sl) = ⟨_, _, upd V (.got p) v .clk, _, _⟩
    rw [upd_ne V _ (by simp)]
  | ats =>
    rw [upd_ne _ _ (by simp), upd_ne _ _ (by simp)]
    show (⟨_, _, V .ats, _, _⟩ : Sl) = ⟨_, _, upd V (.got p) v .ats, _, (List.range s.m).map fun k => upd V (.got p) v (.note k)⟩
    rw [upd_ne V _ (by simp)]
    have : (fun k => upd V (.got p) v (.note k)) = fun k => V (.note k) := funext fun k => upd_ne V _ (by simp)
    rw [this]
  | note a =>
    rw [upd_ne _ _ (by simp), upd_ne _ _ (by simp)]
    show (if a < s.m then _ else _) = (if a < s.m then (⟨_, _, upd V (.got p) v (.note a), _, _⟩ : Sl) else _)
    rw [upd_ne V _ (by simp)]; rfl
  | gots =>
    rw [upd_self, upd_ne _ _ (by simp)]
    have := map_range_set (fun j => V (.got j)) s.n p v hp
    show (⟨_, _, V .gots, _, ((List.range s.n).map fun j => V (.got j)).set p v⟩ : Sl) = ⟨_, _, upd V (.got p) v .gots, _, (List.range s.n).map fun j => upd V (.got p) v (.got j)⟩
    rw [this, upd_ne V _ (by simp)]
    congr 1
    apply List.map_congr_left
    intro j _
    by_cases ej : j = p
    · subst ej; rw [if_pos rfl, upd_self]
    · rw [if_neg ej, upd_ne V _ (by simp [ej])]
  | got q =>
    rw [upd_ne _ _ (by simp)]
    by_cases e : q = p
    · subst e
      rw [upd_self]
      refine Eq.trans ?_ (SNet.rowsG { s with got := put1 s.got q l } (upd V (.got q) v) hp).symm
      rw [upd_self]
      show _ = (⟨_, _, _, (put1 s.got q l q).length, (put1 s.got q l q).map _⟩ : Sl)
      rw [put1_self]
    · rw [upd_ne _ _ (by simp [e])]
      show (if q < s.n then _ else _) = (if q < s.n then (⟨_, _, upd V (.got p) v (.got q), (put1 s.got p l q).length, (put1 s.got p l q).map _⟩ : Sl) else _)
      rw [upd_ne V _ (by simp [e]), put1_ne _ _ e]

/-- One note more. -/
def addV (V : Ix → Value) (m : Nat) (r v : Value) : Ix → Value
  | .clk => V .clk
  | .ats => v
  | .gots => V .gots
  | .note k => if k = m then r else V (.note k)
  | .got p => V (.got p)

theorem SAt.addAt {w2 : World} (h : SAt S w t s V tag) (hc0 : Chg NoF w w1) (r : Value) (hr : w1.ownsRow 0 58 3 r s.n (grid s.n 3 (s.send0.cell s.m))) (hrb : ∀ b, r.ownBlock = some b → w.heap.size ≤ b)
    (hc : Chg (fun b => (V .ats).ownBlock = some b) w1 w2) (v : Value) (ho : w2.ownsRow 0 52 1 v (s.m + 1) ((List.range s.m).map (fun k => V (.note k)) ++ [r]))
    (hb : ∀ b, v.ownBlock = some b → (V .ats).ownBlock = some b ∨ w1.heap.size ≤ b) : ∃ tag', SAt S (w2.setCell ⟨t, 1, none⟩ v) t s.send0 (addV V s.m r v) tag' := by
  have eR : s.rows V (.note s.m) = Sl.none := if_neg (by omega)
  have h1 := Mem.newRow h (.note s.m) (w1 := w1) (by rw [eR]; exact hc0.mono fun _ _ => False.elim) 58 3 r s.n _ hr (fun b hb => .inr (hrb b hb))
  have h2 := h1.newRow .ats (w1 := w2) (by rw [upd_ne _ _ (by simp)]; exact hc) 52 1 v (s.m + 1) _ ho (by rw [upd_ne _ _ (by simp)]; exact hb)
  have h3 := h2.setTop 1 v
  refine ⟨_, h3.congr rfl fun i => ?_⟩
  cases i with
  | clk => rw [upd_ne _ _ (by simp), upd_ne _ _ (by simp)]; rfl
  | gots => rw [upd_ne _ _ (by simp), upd_ne _ _ (by simp)]; rfl
  | got p => rw [upd_ne _ _ (by simp), upd_ne _ _ (by simp)]; rfl
  | ats =>
    rw [upd_self]
    show _ = (⟨_, _, v, _, (List.range (s.m + 1)).map fun k => addV V s.m r v (.note k)⟩ : Sl)
    rw [List.range_succ, List.map_append]
    congr 2
    · apply List.map_congr_left
      intro p hp
      have := List.mem_range.1 hp
      exact (if_neg (by omega)).symm
    · show [r] = [if s.m = s.m then r else V (.note s.m)]
      rw [if_pos rfl]
  | note k =>
    by_cases e : k = s.m
    · subst e
      rw [upd_ne _ _ (by simp), upd_self, s.send0.rowsA _ (show s.m < s.m + 1 by omega)]
      show _ = (⟨_, _, if s.m = s.m then r else V (.note s.m), s.n, _⟩ : Sl)
      rw [if_pos rfl]
      rfl
    · rw [upd_ne _ _ (by simp), upd_ne _ _ (by simp [e])]
      show (if k < s.m then _ else _) = (if k < s.m + 1 then (⟨_, _, if k = s.m then r else V (.note k), s.n, grid s.n 3 (s.send0.cell k)⟩ : Sl) else _)
      by_cases hk : k < s.m
      · rw [if_pos hk, if_pos (show k < s.m + 1 by omega), if_neg e]
        congr 1
        unfold grid
        refine List.map_congr_left fun j _ => ?_
        unfold SNet.cell SNet.send0
        simp only [if_neg e]
      · rw [if_neg hk, if_neg (show ¬ k < s.m + 1 by omega)]

theorem SIn.keep {g : Nat} (h : SIn S w t g s) (hc : Chg NoF w w1) : SIn S w1 t g s := by
  obtain ⟨V, tag, hg, h⟩ := h
  exact ⟨V, tag, hg, Mem.more h hc⟩
theorem SIn.mono {S' : Nat → Prop} {g : Nat} (h : SIn S w t g s) (hS : ∀ b, S' b → S b) : SIn S' w t g s := by
  obtain ⟨V, tag, hg, h⟩ := h
  exact ⟨V, tag, hg, ⟨fun b hb => h.hS b (hS b hb), h.ht, h.blk, h.row, h.tg⟩⟩

end
end Go.Proofs.YtbindapfjghnaaaDoor
