/-
  A struct of the document's, field by field: what each field tells, in a block of its own while it is changed.
  Conditions: none beyond those of each lemma.
-/
import Derived.Test.YtckgkgaoioigdaaDoorRef
import Derived.Test.YtckgkgaoioigdaaDoorAgg
namespace Go.Proofs.YtckgkgaoioigdaaDoor
open Go Go.RowKit

/-- What a field tells. -/
inductive Fd where
  | i (x : Int)
  | b (x : Bool)
  | l (l : List Int)
  | r (ll : List (List Int))

def RdF (S : Nat → Prop) (w : World) (v : Value) : Fd → Prop
  | .i x => v = .int .i64 x
  | .b x => v = .bool x
  | .l l => Rd S w v l
  | .r ll => Rd2 S w v ll

section
variable {S S' F : Nat → Prop} {w w1 : World} {v : Value} {f : Fd}
theorem RdF.keep (h : RdF S w v f) (hc : Chg F w w1) (hn : ∀ b, S b → ¬ F b) : RdF S w1 v f := by
  cases f with
  | i x => exact h
  | b x => exact h
  | l l => exact Rd.keep h hc hn
  | r ll => exact Rd2.keep h hc hn
theorem RdF.mono (h : RdF S w v f) (hS : ∀ b, b < w.heap.size → S b → S' b) : RdF S' w v f := by
  cases f with
  | i x => exact h
  | b x => exact h
  | l l => exact Rd.mono h hS
  | r ll => exact Rd2.mono h hS
theorem RdF.one (h : RdF S w v f) : v.oneCell' = true := by
  cases f with
  | i x => obtain rfl := h; rfl
  | b x => obtain rfl := h; rfl
  | l l => obtain ⟨a, c, rfl⟩ := Rd.val h; rfl
  | r ll => obtain ⟨a, c, rfl⟩ := Rd2.val h; rfl
end

def RdS (S : Nat → Prop) (w : World) : List Value → List Fd → Prop
  | [], [] => True
  | v :: vs, f :: fs => RdF S w v f ∧ RdS S w vs fs
  | _, _ => False

section
variable {S S' F : Nat → Prop} {w w1 : World}
theorem RdS.keep (hc : Chg F w w1) (hn : ∀ b, S b → ¬ F b) : ∀ {us : List Value} {fs : List Fd}, RdS S w us fs → RdS S w1 us fs
  | [], [], _ => trivial
  | _ :: _, _ :: _, h => ⟨h.1.keep hc hn, RdS.keep hc hn h.2⟩
  | [], _ :: _, h => h.elim
  | _ :: _, [], h => h.elim
theorem RdS.mono (hS : ∀ b, b < w.heap.size → S b → S' b) : ∀ {us : List Value} {fs : List Fd}, RdS S w us fs → RdS S' w us fs
  | [], [], _ => trivial
  | _ :: _, _ :: _, h => ⟨h.1.mono hS, RdS.mono hS h.2⟩
  | [], _ :: _, h => h.elim
  | _ :: _, [], h => h.elim
theorem RdS.len : ∀ {us : List Value} {fs : List Fd}, RdS S w us fs → us.length = fs.length
  | [], [], _ => rfl
  | _ :: _, _ :: _, h => by simp [RdS.len h.2]
  | [], _ :: _, h => h.elim
  | _ :: _, [], h => h.elim
theorem RdS.one : ∀ {us : List Value} {fs : List Fd}, RdS S w us fs → us.all (fun u => u.oneCell') = true
  | [], [], _ => rfl
  | _ :: _, _ :: _, h => by simp only [List.all_cons, Bool.and_eq_true]; exact ⟨h.1.one, RdS.one h.2⟩
  | [], _ :: _, h => h.elim
  | _ :: _, [], h => h.elim
theorem RdS.set (u : Value) (f : Fd) (hu : RdF S w u f) : ∀ {us : List Value} {fs : List Fd} (j : Nat), RdS S w us fs → RdS S w (us.set j u) (fs.set j f)
  | [], [], _, _ => trivial
  | _ :: _, _ :: _, 0, h => ⟨hu, h.2⟩
  | _ :: _, _ :: _, j + 1, h => ⟨h.1, RdS.set u f hu j h.2⟩
  | [], _ :: _, _, h => h.elim
  | _ :: _, [], _, h => h.elim
theorem RdS.at {v : Value} {f : Fd} : ∀ {us : List Value} {fs : List Fd} (j : Nat), RdS S w us fs → us[j]? = some v → fs[j]? = some f → RdF S w v f
  | v' :: _, f' :: _, 0, h, hv, hf => by
    simp at hv hf; subst hv; subst hf; exact h.1
  | _ :: us, _ :: fs, j + 1, h, hv, hf => RdS.at (us := us) (fs := fs) j h.2 (by simpa using hv) (by simpa using hf)
  | [], [], _, _, hv, _ => by simp at hv
  | [], _ :: _, _, h, _, _ => h.elim
  | _ :: _, [], _, h, _, _ => h.elim
end

/-- What may be read while a struct lies in block gB, and the result's block is gR. -/
def In (S : Nat → Prop) (w0 : World) (gB gR : Nat) : Nat → Prop := fun b => (S b ∧ b < w0.heap.size) ∨ (w0.heap.size ≤ b ∧ b ≠ gB ∧ b ≠ gR)

structure Bx (S : Nat → Prop) (w0 w : World) (gB gR : Nat) (us rs : List Value) (fs : List Fd) : Prop where
  ref : RefW w0 w gB gR us rs
  fld : RdS (In S w0 gB gR) w us fs

section
variable {S : Nat → Prop} {w0 w w1 : World} {gB gR : Nat} {us rs : List Value} {fs : List Fd}
theorem Bx.start (w : World) (us rs : List Value) (fs : List Fd) (h : RdS S w us fs) (e e' : TypeId) : Bx S w ((w.alloc (.cells us.toArray e)).alloc (.cells rs.toArray e')) w.heap.size (w.heap.size + 1) us rs fs where
  ref := RefW.start w us rs e e'
  fld := ((RdS.mono (S' := In S w w.heap.size (w.heap.size + 1)) (fun b hb hS => .inl ⟨hS, hb⟩) h).keep (((Chg.refl NoF w).alloc _).alloc _) (fun _ _ h => h))
theorem Bx.no (h : Bx S w0 w gB gR us rs fs) (hc : Chg NoF w w1) : Bx S w0 w1 gB gR us rs fs where
  ref := h.ref.no hc
  fld := h.fld.keep hc fun _ _ h => h
theorem Bx.notB (h : Bx S w0 w gB gR us rs fs) (b : Nat) (hb : In S w0 gB gR b) : b ≠ gB ∧ b ≠ gR := by
  have := h.ref.lo
  rcases hb with hb | hb
  · exact ⟨by omega, by omega⟩
  · exact hb.2
theorem Bx.set (h : Bx S w0 w gB gR us rs fs) (j : Nat) (u : Value) (f : Fd) (hu : RdF (In S w0 gB gR) w u f) : Bx S w0 (w.setCell ⟨gB, j, none⟩ u) gB gR (us.set j u) rs (fs.set j f) where
  ref := h.ref.setB j u
  fld := (h.fld.set u f hu j).keep (setCell_chg w ⟨gB, j, none⟩ u) fun b hb e => (h.notB b hb).1 e
theorem Bx.at (h : Bx S w0 w gB gR us rs fs) {v : Value} {f : Fd} (j : Nat) (hv : us[j]? = some v) (hf : fs[j]? = some f) : RdF (In S w0 gB gR) w v f := RdS.at j h.fld hv hf
theorem Bx.up (h : Bx S w0 w gB gR us rs fs) (b : Nat) (hb : More (In S w0 gB gR) w b) : In S w0 gB gR b := by
  have h1 := h.ref.bB.lt
  have h2 := h.ref.bR.lt
  have h3 := h.ref.lo
  rcases hb with hb | hb
  · exact hb
  · exact .inr ⟨by omega, by omega, by omega⟩
/-- What a function told, as a field. -/
theorem Bx.told (h : Bx S w0 w gB gR us rs fs) {v : Value} {f : Fd} (hv : RdF (More (In S w0 gB gR) w) w1 v f) : RdF (In S w0 gB gR) w1 v f := hv.mono fun b _ hb => h.up b hb
theorem Bx.setB (h : Bx S w0 w gB gR us rs fs) {us' : List Value} {fs' : List Fd} (hB : Blk w1 gB us') (hc : Chg (fun k => k = gB) w w1) (hf : RdS (In S w0 gB gR) w us' fs') : Bx S w0 w1 gB gR us' rs fs' where
  ref :=
    { chg := h.ref.chg.trans2 hc fun i _ hi => .inr (by have hi : i = gB := hi; have := h.ref.lo; omega)
      lo := h.ref.lo
      bB := hB
      bR := h.ref.bR.keep hc fun e => h.ref.lo.2.2 (Eq.symm e) }
  fld := hf.keep hc fun b hb e => (h.notB b hb).1 e
theorem Bx.setR (h : Bx S w0 w gB gR us rs fs) {rs' : List Value} (hB : Blk w1 gR rs') (hc : Chg (fun k => k = gR) w w1) : Bx S w0 w1 gB gR us rs' fs where
  ref := h.ref.store hB hc
  fld := h.fld.keep hc fun b hb e => (h.notB b hb).2 e
theorem Bx.done (h : Bx S w0 w gB gR us rs fs) : RdS (More S w0) w us fs ∧ Chg NoF w0 w :=
  ⟨h.fld.mono fun b _ hb => by
    rcases hb with hb | hb
    · exact .inl hb.1
    · exact .inr hb.1, h.ref.chg⟩
end

/-- The whole struct read, in a region that draws its order. -/
theorem quiet_loadT {P : Program} {o : Oper} {a : Act} {w : World} {t : TypeId} {k : Nat} (hT : AggT P t k) (p : Operand) (hop : o.op = Op.load t p) (g : Nat) (us : List Value)
    (hp : a.eval p = .pointer (some ⟨g, 0, none⟩)) (hB : Blk w g us) (hl : us.length = k) : (execOp a.eval o).run P w = .ok (.value (.agg us.toArray)) w := by
  unfold execOp
  simp only [hop, hp, Instr.loadAt, Instr.sureAddr, Sem.run_bind, Sem.run_pure, Result.andThen_ok, hT.ld w g us hB hl]

theorem RdS.cons_inv {S : Nat → Prop} {w : World} {us : List Value} {f : Fd} {fs : List Fd} (h : RdS S w us (f :: fs)) : ∃ v vs, us = v :: vs ∧ RdF S w v f ∧ RdS S w vs fs := by
  cases us with
  | nil => exact h.elim
  | cons v vs => exact ⟨v, vs, rfl, h.1, h.2⟩
theorem RdS.nil_inv {S : Nat → Prop} {w : World} {us : List Value} (h : RdS S w us []) : us = [] := by
  cases us with
  | nil => rfl
  | cons v vs => exact h.elim

/-- Where s[1:] begins. -/
theorem tail_off2 (g o cap m : Nat) (_ : m + 1 ≤ cap) : ∃ off, (if cap = 1 then (some ⟨g, o, none⟩ : Option Addr) else some ⟨g, o + 1, none⟩) = some ⟨g, off, none⟩ ∧ (0 < m → off = o + 1) := by
  by_cases h : cap = 1
  · exact ⟨o, by rw [if_pos h], fun h2 => by omega⟩
  · exact ⟨o + 1, by rw [if_neg h], fun _ => rfl⟩
theorem Rd.tail2 {S : Nat → Prop} {w : World} {g o off m cap : Nat} {x : Int} {l : List Int} (h : Rd S w (.slice (some ⟨g, o, none⟩) (m + 1) cap) (x :: l)) (hl : l.length = m) (hoff : 0 < m → off = o + 1) : Rd S w (.slice (some ⟨g, off, none⟩) m (cap - 1)) l := by
  subst hl
  obtain ⟨b, o', c', e, hS, hcap, hc⟩ := h.formC (by simp)
  simp only [Value.slice.injEq, Option.some.injEq, Addr.mk.injEq, and_true] at e
  obtain ⟨⟨rfl, rfl⟩, -, rfl⟩ := e
  simp only [List.length_cons] at hcap
  refine ⟨_, _, rfl, .inr ⟨g, off, rfl, hS, by omega, fun j hj => ?_⟩⟩
  have h2 := hc (1 + j) (by simp; omega)
  rw [hoff (by omega), Nat.add_assoc, h2, Nat.add_comm 1 j]
  simp [List.getD, hj]

/-- What a function of the document's tells: a struct with such fields. -/
def AnsF (S : Nat → Prop) (w : World) (fs : List Fd) (v : Value) (w' : World) : Prop := ∃ us, v = .agg us.toArray ∧ RdS (More S w) w' us fs ∧ Chg NoF w w'

theorem Bx.ans {S : Nat → Prop} {w0 w : World} {gB gR : Nat} {us : List Value} {rs : List Value} {fs : List Fd} (h : Bx S w0 w gB gR us rs fs) : AnsF S w0 fs (.agg us.toArray) w := ⟨us, rfl, h.done⟩

/-- The struct of an answer, in the block's terms. -/
theorem Bx.toldS {S : Nat → Prop} {w0 w w1 : World} {gB gR : Nat} {us rs : List Value} {fs : List Fd} (h : Bx S w0 w gB gR us rs fs) {us' : List Value} {fs' : List Fd} (hv : RdS (More (In S w0 gB gR) w) w1 us' fs') : RdS (In S w0 gB gR) w1 us' fs' := hv.mono fun b _ hb => h.up b hb

end Go.Proofs.YtckgkgaoioigdaaDoor
