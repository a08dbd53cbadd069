/-
  A law that plays the program's net and the document's side by side: the net in memory, the document's struct in a block X.
  Conditions: the net is kept by what changes other blocks only.
-/
import Derived.Test.YtckgkgaoioigdaaDoorBox
namespace Go.Proofs.YtckgkgaoioigdaaDoor
open Go Go.RowKit

/-- A thing in memory that leaves alone what is in S, and is kept by what changes only S. -/
structure Adopts (I : (Nat → Prop) → World → Prop) : Prop where
  adopt : ∀ {S F : Nat → Prop} {w w1 : World}, I S w → Chg F w w1 → (∀ b, b < w.heap.size → F b → S b) → I (Plus S w w1) w1
  mono : ∀ {S S' : Nat → Prop} {w : World}, I S w → (∀ b, S' b → S b) → I S' w

theorem Adopts.other {I : (Nat → Prop) → World → Prop} (h : Adopts I) {S F : Nat → Prop} {w w1 : World} (hi : I S w) (hc : Chg F w w1) (hF : ∀ b, b < w.heap.size → F b → S b) : I S w1 :=
  h.mono (h.adopt hi hc hF) fun _ hb => .inl hb

structure PRel (w0 w : World) (X : Nat) (I : (Nat → Prop) → World → Prop) (fs : List Fd) : Prop where
  ex : ∃ (S : Nat → Prop) (us : List Value), (∀ b, b < w0.heap.size → S b) ∧ S X ∧ I S w ∧ Blk w X us ∧ RdS (fun b => S b ∧ b ≠ X) w us fs
  chg : Chg (NewB w0) w0 w
  nX : ¬ X < w0.heap.size

section
variable {w0 w w1 : World} {X : Nat} {I : (Nat → Prop) → World → Prop} {fs : List Fd}

theorem PRel.no (hA : Adopts I) (h : PRel w0 w X I fs) (hc : Chg NoF w w1) : PRel w0 w1 X I fs where
  ex := by
    obtain ⟨S, us, h1, h2, h3, h4, h5⟩ := h.ex
    exact ⟨S, us, h1, h2, hA.other h3 hc (fun _ _ h => h.elim), h4.keep hc (fun h => h), h5.keep hc (fun _ _ h => h)⟩
  chg := h.chg.trans hc.ofNo
  nX := h.nX

theorem PRel.net (h : PRel w0 w X I fs) : ∃ S : Nat → Prop, I S w ∧ ∀ (w1 : World) (I' : (Nat → Prop) → World → Prop), I' S w1 → Chg (fun k => ¬ S k) w w1 → PRel w0 w1 X I' fs := by
  obtain ⟨S, us, h1, h2, h3, h4, h5⟩ := h.ex
  exact ⟨S, h3, fun w1 I' hin hc => ⟨⟨S, us, h1, h2, hin, h4.keep hc (fun e => e h2), h5.keep hc (fun b hb e => e hb.1)⟩, h.chg.trans (hc.mono fun b _ hb hlt => hb (h1 b hlt)), h.nX⟩⟩

/-- Both, with the document's struct as it lies. -/
theorem PRel.all (h : PRel w0 w X I fs) : ∃ (S : Nat → Prop) (us : List Value), S X ∧ I S w ∧ Blk w X us ∧ RdS (fun b => S b ∧ b ≠ X) w us fs ∧ ∀ (w1 : World) (I' : (Nat → Prop) → World → Prop), I' S w1 → Chg (fun k => ¬ S k) w w1 →
    PRel w0 w1 X I' fs ∧ Blk w1 X us ∧ RdS (fun b => S b ∧ b ≠ X) w1 us fs := by
  obtain ⟨S, us, h1, h2, h3, h4, h5⟩ := h.ex
  refine ⟨S, us, h2, h3, h4, h5, fun w1 I' hin hc => ?_⟩
  have h4' := h4.keep hc (fun e => e h2)
  have h5' := h5.keep hc (fun b hb e => e hb.1)
  exact ⟨⟨⟨S, us, h1, h2, hin, h4', h5'⟩, h.chg.trans (hc.mono fun b _ hb hlt => hb (h1 b hlt)), h.nX⟩, h4', h5'⟩

theorem PRel.doc (hA : Adopts I) (h : PRel w0 w X I fs) : ∃ (S1 : Nat → Prop) (us : List Value), (∀ b, S1 b → b < w.heap.size) ∧ Blk w X us ∧ RdS S1 w us fs ∧
    ∀ (wx w3 : World) (us' : List Value) (fs' : List Fd), Chg NoF w wx → RdS (fun b => S1 b ∨ w.heap.size ≤ b) wx us' fs' → Blk w3 X us' → Chg (fun k => k = X) wx w3 → PRel w0 w3 X I fs' := by
  obtain ⟨S, us, h1, h2, h3, h4, h5⟩ := h.ex
  have hlt := h4.lt
  refine ⟨fun b => (S b ∧ b ≠ X) ∧ b < w.heap.size, us, fun b hb => hb.2, h4, h5.mono (fun b hb h => ⟨h, hb⟩), fun wx w3 us' fs' hc hr hB hX => ⟨⟨Plus S w wx, us', fun b hb => .inl (h1 b hb), .inl h2, hA.other (hA.adopt h3 hc (fun _ _ h => h.elim)) hX (fun b _ e => by have e : b = X := e; subst e; exact .inl h2), hB, ?_⟩, ?_, h.nX⟩⟩
  · refine ((hr.mono (S' := fun b => (Plus S w wx b) ∧ b ≠ X) (fun b hb h6 => ?_)).keep hX (fun b hb e => hb.2 e))
    rcases h6 with h6 | h6
    · exact ⟨.inl h6.1.1, h6.1.2⟩
    · exact ⟨.inr ⟨h6, hb⟩, by omega⟩
  · exact (h.chg.trans hc.ofNo).trans (hX.mono fun b _ e => by have e : b = X := e; subst e; exact h.nX)

end

/-- Behind a call of the document's: its answer lies in block Y. -/
def YR (S1 : Nat → Prop) (w wx : World) (Y : Nat) (fs : List Fd) : Prop := ∃ us, Chg NoF w wx ∧ Blk wx Y us ∧ RdS (fun b => S1 b ∨ w.heap.size ≤ b) wx us fs

section
variable {S1 : Nat → Prop} {w w1 w3 wx : World} {Y : Nat} {us zs : List Value} {fs : List Fd}

theorem YR.ofDrew (h : YR S1 w.drew wx Y fs) : YR S1 w wx Y fs := by
  obtain ⟨us, h1, h2, h3⟩ := h
  exact ⟨us, ((Chg.refl NoF w).drew).trans h1, h2, h3⟩
theorem YR.chg (h : YR S1 w wx Y fs) : Chg NoF w wx := by
  obtain ⟨us, h1, _⟩ := h
  exact h1

/-- The answer told, then stored in a new block. -/
theorem YR.mk1 (hc : Chg NoF w w1) (hr : RdS (More S1 w) w1 us fs) (e : TypeId) (hB : Blk w3 w1.heap.size us) (hX : Chg (fun k => k = w1.heap.size) (w1.alloc (.cells zs.toArray e)) w3) : YR S1 w w3 w1.heap.size fs := by
  have hc3 : Chg NoF w w3 := (hc.alloc _).trans2 hX fun i _ hi => .inr (by have hi : i = w1.heap.size := hi; have := hc.size; omega)
  refine ⟨us, hc3, hB, ?_⟩
  have h1 := (hr.mono (S' := fun b => (S1 b ∨ w.heap.size ≤ b) ∧ b < w1.heap.size) (fun b hb h => ⟨h, hb⟩)).keep ((Chg.refl NoF w1).alloc (.cells zs.toArray e)) (fun _ _ h => h)
  exact (h1.keep hX (fun b hb e => by have e : b = w1.heap.size := e; have := hb.2; omega)).mono fun b _ h => h.1

/-- A new block first, then the answer told, and stored. -/
theorem YR.mk2 (hY : Y = w.heap.size) (h0 : ∀ b, S1 b → b < w.heap.size) (e : TypeId) (hc : Chg NoF (w.alloc (.cells zs.toArray e)) w1) (hr : RdS (More S1 (w.alloc (.cells zs.toArray e))) w1 us fs) (hB : Blk w3 Y us) (hX : Chg (fun k => k = Y) w1 w3) : YR S1 w w3 Y fs := by
  subst hY
  have hc3 : Chg NoF w w3 := (((Chg.refl NoF w).alloc _).trans hc).trans2 hX fun i _ hi => .inr (by have hi : i = w.heap.size := hi; omega)
  refine ⟨us, hc3, hB, ?_⟩
  refine (hr.mono (S' := fun b => (S1 b ∨ w.heap.size ≤ b) ∧ b ≠ w.heap.size) (fun b hb h => ?_)).keep hX (fun b hb e => hb.2 e) |>.mono fun b _ h => h.1
  rcases h with h | h
  · have := h0 b h; exact ⟨.inl h, by omega⟩
  · simp at h; exact ⟨.inr (by omega), by omega⟩
end

end Go.Proofs.YtckgkgaoioigdaaDoor
