/-
  The ring that chooses beside the line over two wires: what stays true of each while the other moves.
  Conditions: none beyond those of each lemma.
-/
import Derived.Test.YtgpjjbfmckcjgaaElG
import Derived.Test.YtgpjjbfmckcjgaaBtG
import Derived.Test.YtgpjjbfmckcjgaaAdopt
namespace Go.Proofs.Ytgpjjbfmckcjgaa
open Go Go.RowKit

/-! ### The ring, since the world w -/
def WRel (S : Nat → Prop) (w wr : World) (t : Nat) (l : List Int) (s : Ring) : Prop :=
  EInv s ∧ s.names = l ∧ 2 * (s.sent + pot s) ≤ l.length * (l.length + 1) + 2 * l.length ∧ RingIn S wr t s ∧ Chg (fun k => ¬ S k) w wr

section
variable {S : Nat → Prop} {w wr wr' : World} {t : Nat} {l : List Int} {s s' : Ring}

theorem WRel.sent (h : WRel S w wr t l s) : s.sent ≤ 20 := by
  obtain ⟨h1, h2, h3, _, _⟩ := h
  have h5 : l.length ≤ 5 := by rw [← h2]; exact h1.l4
  have : l.length * (l.length + 1) ≤ 5 * 6 := Nat.mul_le_mul h5 (by omega)
  omega

theorem WRel.start (he : elErr l = 0) (hin : RingIn S w t (Ring.init l)) : WRel S w w t l (Ring.init l) := by
  have := EInv.init he
  refine ⟨this.1, rfl, ?_, hin, Chg.refl _ _⟩
  show 2 * (0 + Go.Proofs.Ytgpjjbfmckcjgaa.pot (Ring.init l)) ≤ _
  have := this.2; omega

theorem WRel.moved (h : WRel S w wr t l s) (hm : Moves s s') (hin : RingIn S wr' t s') (hc : Chg (fun k => ¬ S k) wr wr') : WRel S w wr' t l s' := by
  obtain ⟨h1, h2, h3, _, h5⟩ := h
  exact ⟨hm.inv, hm.nm.trans h2, by have := hm.tot; omega, hin, h5.trans hc⟩

theorem WRel.act (h : WRel S w wr t l s) (x : Int) (hin : RingIn S wr' t (s.act x)) (hc : Chg (fun k => ¬ S k) wr wr') : WRel S w wr' t l (s.act x) :=
  h.moved (Moves.act h.1 x) hin hc

theorem WRel.pot (h : WRel S w wr t l s) : pot s ≤ 20 := by
  obtain ⟨h1, h2, h3, _, _⟩ := h
  have h5 : l.length ≤ 5 := by rw [← h2]; exact h1.l4
  have : l.length * (l.length + 1) ≤ 5 * 6 := Nat.mul_le_mul h5 (by omega)
  omega

/-- What the rounds know. -/
def WGo (S : Nat → Prop) (w wr : World) (t : Nat) (l : List Int) (r : Nat) (s : Ring) : Prop :=
  WRel S w wr t l s ∧ s.begun.getD 0 false = true ∧ (AllEmpty s ∨ Go.Proofs.Ytgpjjbfmckcjgaa.pot s + r ≤ 20)

def WIn (S : Nat → Prop) (w wr : World) (t : Nat) (l : List Int) (p q : Nat) (s : Ring) : Prop :=
  WRel S w wr t l s ∧ s.begun.getD 0 false = true ∧ InRound p q s

theorem WGo.start {r : Nat} (h : WGo S w wr t l r s) : ∃ p, (p = 0 ∨ p + r ≤ 20) ∧ WIn S w wr t l p 0 s := by
  obtain ⟨h1, h2, h3⟩ := h
  rcases h3 with h3 | h3
  · exact ⟨0, .inl rfl, h1, h2, h1.1, .inl h3⟩
  · exact ⟨Go.Proofs.Ytgpjjbfmckcjgaa.pot s, .inr h3, h1, h2, InRound.start h1.1⟩

theorem WIn.done {p r : Nat} (h : WIn S w wr t l p s.names.length s) (hp : p = 0 ∨ p + r ≤ 20) : WGo S w wr t l (r + 1) s := by
  obtain ⟨h1, h2, h3⟩ := h
  refine ⟨h1, h2, ?_⟩
  rcases h3.done with h | h
  · exact .inl h
  · right; omega

theorem WIn.step {p q : Nat} (h : WIn S w wr t l p q s) (hq : q < s.names.length) (hin : RingIn S wr' t (s.step q)) (hc : Chg (fun k => ¬ S k) wr wr') : WIn S w wr' t l p (q + 1) (s.step q) := by
  obtain ⟨h1, h2, h3⟩ := h
  have hm := (Moves.step h1.1 (q : Int)).1
  exact ⟨h1.moved hm hin hc, hm.bg 0 h2, h3.step hq⟩

/-- A ring is kept by what changes other blocks. -/
theorem RingIn.other {F : Nat → Prop} (h : RingIn S w t s) (hc : Chg F w wr) (hF : ∀ b, b < w.heap.size → F b → S b) : RingIn S wr t s := by
  obtain ⟨hSlt, hBnd, N, B, W, M, tag, h⟩ := h
  have hc2 : Chg S w wr := hc.mono hF
  have hk : ∀ {r e k n : Nat} {v : Value} {xs : List Value}, 0 < r → Own w tag r e k v n xs → Own wr tag r e k v n xs := fun hr ho =>
    ho.keep hc2 (fun b hb => by rw [h.hS b hb]; omega) (fun _ _ => rfl)
  exact ⟨fun b hb => Nat.lt_of_lt_of_le (hSlt b hb) hc.size, hBnd, N, B, W, M, tag,
    ⟨h.hS, h.ht, h.blk.keep hc2 (fun hs => by have := h.hS t hs; rw [h.ht] at this; cases this), hk (by omega) h.names, hk (by omega) h.begun, hk (by omega) h.ways, fun i hi => hk (by omega) (h.msgs i hi), h.lens⟩⟩

end

/-! ### The line, since the world w -/
def LRel (S : Nat → Prop) (w wr : World) (t : Nat) (l : List Int) (s : BNet) : Prop := BInv s ∧ s.vals = l ∧ BIn S wr t s ∧ Chg (fun k => ¬ S k) w wr

section
variable {S : Nat → Prop} {w wr wr' : World} {t : Nat} {l : List Int} {s : BNet}

theorem BIn.adopt {F : Nat → Prop} (h : BIn S w t s) (hc : Chg F w wr) (hF : ∀ b, b < w.heap.size → F b → S b) : BIn (Plus S w wr) wr t s := by
  obtain ⟨V, tag, h⟩ := h
  obtain ⟨tag', h'⟩ := Mem.adopt h hc hF
  exact ⟨V, tag', h'⟩

theorem LRel.start (h0 : bnErr l = 0) (hin : BIn S w t (BNet.init l)) : LRel S w w t l (BNet.init l) :=
  ⟨BInv.start (bnErr_good h0).1 (bnErr_good h0).2, rfl, hin, Chg.refl _ _⟩

theorem LRel.keep (h : LRel S w wr t l s) (hc : Chg NoF wr wr') : LRel S w wr' t l s :=
  ⟨h.1, h.2.1, h.2.2.1.keep hc, h.2.2.2.trans hc.ofNo⟩

theorem LRel.doIt (h : LRel S w wr t l s) (k : Int) :
    Calls Try.prog 17 #[.pointer (some ⟨t, 0, none⟩), .int .i64 k] wr fun e w' => e = .returned (errV (s.err k)) ∧ LRel S w w' t l (s.act k) := by
  refine (do_any _ wr t s h.2.2.1 h.1 k).mono ?_
  rintro e w' ⟨rfl, hin, hc⟩
  exact ⟨rfl, h.1.act k, (s.act_vals k).trans h.2.1, hin, h.2.2.2.trans hc⟩
end

/-- Names that the ring takes, the line takes, too. -/
theorem elErr_bn {l : List Int} (h : elErr l = 0) : bnErr l = 0 := by
  obtain ⟨h0, h5, hr, _⟩ := elErr_ok h
  have hb : ∀ x ∈ l, inB x 0 1000 = true := fun x hx => by
    obtain ⟨k, hk, rfl⟩ := List.getElem_of_mem hx
    have := hr k hk
    simp [List.getD, hk, inB] at this ⊢
    omega
  unfold bnErr
  rw [if_neg (by omega), if_neg]
  rw [List.any_eq_true]
  rintro ⟨x, hx, hf⟩
  rw [hb x hx] at hf
  exact absurd hf (by decide)

end Go.Proofs.Ytgpjjbfmckcjgaa
