/-
  A struct stored as a whole into a block of its own.
  Conditions: the block has as many cells as the struct.
-/
import Derived.Test.YtckgkgaoioigdaaDoorLaws
import Derived.Laws.CopyRow
import Derived.Laws.Rows
import Derived.Laws.ResultCell
namespace Go.Proofs.YtckgkgaoioigdaaDoor
open Go Go.RowKit

theorem setRow_chg (w : World) (g : Nat) (cs : Array Value) : Chg (fun k => k = g) w (w.setRow g cs) :=
  ⟨rfl, rfl, rfl, by simp [World.setRow], fun k _ hn => by
    have : g ≠ k := fun e => hn e.symm
    simp [World.setRow, Array.getElem?_modify, this]⟩

theorem Chg.trans2 {F G : Nat → Prop} {a b c : World} (h : Chg F a b) (k : Chg G b c) (hG : ∀ i, i < b.heap.size → G i → F i ∨ a.heap.size ≤ i) : Chg F a c :=
  ⟨k.os.trans h.os, k.tape.trans h.tape, k.output.trans h.output, Nat.le_trans h.size k.size, fun i hi hn =>
    (k.block i (Nat.lt_of_lt_of_le hi h.size) (fun hg => by rcases hG i (Nat.lt_of_lt_of_le hi h.size) hg with h1 | h1; exact hn h1; omega)).trans (h.block i hi hn)⟩

section
variable {P : Program}

theorem wp_storeAgg {o : Oper} {a : Act} {w : World} {K : Act → World → Prop} {Q : Exit → Act → World → Prop} (t : TypeId) (p x : Operand) (hop : o.op = Op.store t p x) (g : Nat) (us old : List Value)
    (hp : a.eval p = .pointer (some ⟨g, 0, none⟩)) (hx : a.eval x = .agg us.toArray) (hsz : ∀ w, (sizeOf t).run P w = .ok us.length w) (hB : Blk w g old) (hl : old.length = us.length) (h1 : ∀ u ∈ us, u.oneCell' = true)
    (h : ∀ w', Blk w' g us → Chg (fun k => k = g) w w' → K (a.put o.dst undef) w') : o.wp P a w K Q := by
  obtain ⟨e, hB⟩ := hB
  have hst := run_storeCells_at P g 0 e us 0 old.toArray w hB (by simp [hl]) h1
  have e1 : (List.take (0 + 0) old.toArray.toList ++ us ++ List.drop (0 + 0 + us.length) old.toArray.toList).toArray = us.toArray := by simp [← hl]
  rw [e1] at hst
  have hk := h (w.setRow g us.toArray) ⟨e, setRow_heap w g old.toArray us.toArray e _ hB⟩ (setRow_chg w g _)
  unfold Oper.wp
  simp [execOp, hop, hp, hx, Instr.storeAt, storeVar, Instr.sureAddr, hsz, hst, Value.cells, Result.andThen]
  exact hk

/-- A struct's type: how many cells it has, and that it is read as a whole. -/
structure AggT (P : Program) (t : TypeId) (k : Nat) : Prop where
  sz : ∀ w, (sizeOf t).run P w = .ok k w
  ld : ∀ w g us, Blk w g us → us.length = k → (loadVar t ⟨g, 0, none⟩).run P w = .ok (.agg us.toArray) w

theorem AggT.mk' {t : TypeId} {k : Nat} {d : TypeDesc} (hsz : ∀ w, (sizeOf t).run P w = .ok k w) (hu : P.underlying t = some d) (hd : (match d with | .struct _ | .array _ _ => true | _ => false) = true) (hi : (P.info? t).map (·.size) = some k) : AggT P t k where
  sz := hsz
  ld := fun w g us hB hl => by
    obtain ⟨e, hB⟩ := hB
    exact run_loadVar_row w g e t us.toArray (0, 0) d hB hu hd (by rw [hi]; simp [hl])

theorem wp_storeT {o : Oper} {a : Act} {w : World} {K : Act → World → Prop} {Q : Exit → Act → World → Prop} {t : TypeId} {k : Nat} (hT : AggT P t k) (p x : Operand) (hop : o.op = Op.store t p x) (g : Nat) (us old : List Value)
    (hp : a.eval p = .pointer (some ⟨g, 0, none⟩)) (hx : a.eval x = .agg us.toArray) (hu : us.length = k) (hB : Blk w g old) (hl : old.length = k) (h1 : us.all (fun u => u.oneCell') = true)
    (h : ∀ w', Blk w' g us → Chg (fun k => k = g) w w' → K (a.put o.dst undef) w') : o.wp P a w K Q :=
  wp_storeAgg t p x hop g us old hp hx (fun w => by rw [hu]; exact hT.sz w) hB (by rw [hl, hu]) (by simpa using h1) h

theorem wp_loadT {o : Oper} {a : Act} {w : World} {K : Act → World → Prop} {Q : Exit → Act → World → Prop} {t : TypeId} {k : Nat} (hT : AggT P t k) (p : Operand) (hop : o.op = Op.load t p) (g : Nat) (us : List Value)
    (hp : a.eval p = .pointer (some ⟨g, 0, none⟩)) (hB : Blk w g us) (hl : us.length = k)
    (h : K (a.put o.dst (.agg us.toArray)) w) : o.wp P a w K Q := by
  unfold Oper.wp execOp
  simp only [hop, hp, Instr.loadAt, Instr.sureAddr, Sem.run_bind, Sem.run_pure, Result.andThen_ok, hT.ld w g us hB hl]
  exact h

theorem results_cell1 {fn : Func} {p : Tmp} {t : TypeId} {k : Nat} (hT : AggT P t k) (h : fn.results = #[.cell p t]) (tmps : Array Value) (w : World) (g : Nat) (us : List Value)
    (hp : tmps.getD p undef = .pointer (some ⟨g, 0, none⟩)) (hB : Blk w g us) (hl : us.length = k) : (results fn tmps).run P w = .ok (.agg us.toArray) w := by
  have hp' : tmps[p]?.getD undef = .pointer (some ⟨g, 0, none⟩) := by simpa using hp
  simp [results, h, hp', asAddr, hT.ld w g us hB hl]

theorem results_cell2 {fn : Func} {p u : Tmp} {t : TypeId} {k : Nat} (hT : AggT P t k) (h : fn.results = #[.cell p t, .tmp u]) (tmps : Array Value) (w : World) (g : Nat) (us : List Value)
    (hp : tmps.getD p undef = .pointer (some ⟨g, 0, none⟩)) (hB : Blk w g us) (hl : us.length = k) : (results fn tmps).run P w = .ok (.tuple #[.agg us.toArray, tmps.getD u undef]) w := by
  have hp' : tmps[p]?.getD undef = .pointer (some ⟨g, 0, none⟩) := by simpa using hp
  simp [results, h, hp', asAddr, hT.ld w g us hB hl]

theorem results_cell3 {fn : Func} {p u v : Tmp} {t : TypeId} {k : Nat} (hT : AggT P t k) (h : fn.results = #[.cell p t, .tmp u, .tmp v]) (tmps : Array Value) (w : World) (g : Nat) (us : List Value)
    (hp : tmps.getD p undef = .pointer (some ⟨g, 0, none⟩)) (hB : Blk w g us) (hl : us.length = k) : (results fn tmps).run P w = .ok (.tuple #[.agg us.toArray, tmps.getD u undef, tmps.getD v undef]) w := by
  have hp' : tmps[p]?.getD undef = .pointer (some ⟨g, 0, none⟩) := by simpa using hp
  simp [results, h, hp', asAddr, hT.ld w g us hB hl]

end

/-- A struct in a block of its own, and the block of a result. -/
structure RefW (w0 w : World) (gB gR : Nat) (us rs : List Value) : Prop where
  chg : Chg NoF w0 w
  lo : w0.heap.size ≤ gB ∧ w0.heap.size ≤ gR ∧ gB ≠ gR
  bB : Blk w gB us
  bR : Blk w gR rs

theorem RefW.start (w : World) (us rs : List Value) (e e' : TypeId) : RefW w ((w.alloc (.cells us.toArray e)).alloc (.cells rs.toArray e')) w.heap.size (w.heap.size + 1) us rs where
  chg := ((Chg.refl NoF w).alloc _).alloc _
  lo := by omega
  bB := (Blk.alloc w us e).keep ((Chg.refl NoF _).alloc _) fun h => h
  bR := by
    have := Blk.alloc (w.alloc (.cells us.toArray e)) rs e'
    have e1 : (w.alloc (.cells us.toArray e)).heap.size = w.heap.size + 1 := by simp
    rw [e1] at this
    exact this

theorem RefW.no {w0 w w1 : World} {gB gR : Nat} {us rs : List Value} (h : RefW w0 w gB gR us rs) (hc : Chg NoF w w1) : RefW w0 w1 gB gR us rs where
  chg := h.chg.trans hc
  lo := h.lo
  bB := h.bB.keep hc fun h => h
  bR := h.bR.keep hc fun h => h

theorem RefW.setB {w0 w : World} {gB gR : Nat} {us rs : List Value} (h : RefW w0 w gB gR us rs) (j : Nat) (u : Value) : RefW w0 (w.setCell ⟨gB, j, none⟩ u) gB gR (us.set j u) rs where
  chg := h.chg.setCell (.inr h.lo.1) _
  lo := h.lo
  bB := h.bB.set j u
  bR := h.bR.keep (setCell_chg w ⟨gB, j, none⟩ u) fun e => h.lo.2.2 (Eq.symm e)

theorem RefW.store {w0 w w1 : World} {gB gR : Nat} {us rs rs' : List Value} (h : RefW w0 w gB gR us rs) (hB : Blk w1 gR rs') (hc : Chg (fun k => k = gR) w w1) : RefW w0 w1 gB gR us rs' where
  chg := h.chg.trans2 hc fun i _ hi => .inr (by have hi : i = gR := hi; have := h.lo; omega)
  lo := h.lo
  bB := h.bB.keep hc fun e => h.lo.2.2 e
  bR := hB

theorem RefW.past {w0 w w1 : World} {gB gR B : Nat} {us rs : List Value} (h : RefW w0 w gB gR us rs) (hc : Chg (fun k => B ≤ k) w w1) (hB : gB < B) (hR : gR < B) : RefW w0 w1 gB gR us rs where
  chg := h.chg.trans2 hc fun i _ hi => .inr (by have hi : B ≤ i := hi; have := h.lo; omega)
  lo := h.lo
  bB := h.bB.keep hc fun e => by have e : B ≤ gB := e; omega
  bR := h.bR.keep hc fun e => by have e : B ≤ gR := e; omega

/-- Both blocks, as one set. -/
def Two (gB gR : Nat) : Nat → Prop := fun k => k = gB ∨ k = gR

end Go.Proofs.YtckgkgaoioigdaaDoor
