/-
  A slice of slices of integers that is read.
  Conditions: none beyond those of each lemma.
-/
import Derived.Test.YtckgkgaoioigdaaDoorInts
import Derived.Deep.Matrix
namespace Go.Proofs.YtckgkgaoioigdaaDoor
open Go Go.RowKit

/-- The slice v reads as a list of lists; all its blocks are of S. -/
def Rd2 (S : Nat → Prop) (w : World) (v : Value) (ll : List (List Int)) : Prop :=
  ∃ a c, v = .slice a ll.length c ∧ (ll = [] ∨ ∃ b off, a = some ⟨b, off, none⟩ ∧ S b ∧ ll.length ≤ c ∧ ∀ j, j < ll.length → ∃ u, w.cell? ⟨b, off + j, none⟩ = some u ∧ Rd S w u (ll.getD j []) ∧ (ll.getD j []).length ≤ 9223372036854775807)

theorem Rd2.val {S : Nat → Prop} {w : World} {v : Value} {ll : List (List Int)} (h : Rd2 S w v ll) : ∃ a c, v = .slice a ll.length c := by
  obtain ⟨a, c, rfl, _⟩ := h; exact ⟨a, c, rfl⟩

/-- A row of it, in a world that has kept all of S. -/
theorem Rd2.at {S F : Nat → Prop} {w w' : World} {v : Value} {ll : List (List Int)} (h : Rd2 S w v ll) (hc : Chg F w w') (hn : ∀ b, S b → ¬ F b) {j : Nat} (hj : j < ll.length) :
    ∃ b off c u, v = .slice (some ⟨b, off, none⟩) ll.length c ∧ w'.cell? ⟨b, off + j, none⟩ = some u ∧ Rd S w' u (ll.getD j []) ∧ (ll.getD j []).length ≤ 9223372036854775807 := by
  obtain ⟨a, c, rfl, h⟩ := h
  rcases h with rfl | ⟨b, off, rfl, hb, _, hcell⟩
  · simp at hj
  · obtain ⟨u, h1, h2, h3⟩ := hcell j hj
    exact ⟨b, off, c, u, rfl, hc.cell_some h1 (hn b hb), h2.keep hc hn, h3⟩

/-- Off an argument's rows. -/
theorem Rd2.ofRows {w : World} {a : Addr} {len cap : Nat} {A : Nat → Option Addr} {L C : Nat → Nat} {Z : Nat → List Int} (hl : len ≤ cap)
    (h : ∀ r, r < cap → w.cell? (a.add r) = some (.slice (A r) (L r) (C r)) ∧ L r ≤ C r ∧ C r ≤ maxLen ∧ (Z r).length = C r ∧ (∀ n ∈ Z r, (Lit.int .i64 n).wf = true) ∧ (A r = none → C r = 0) ∧ ∀ a', A r = some a' → ∀ c, c < C r → w.cell? (a'.add c) = some (.int .i64 ((Z r).getD c 0))) :
    Rd2 (fun k => k < w.heap.size) w (.slice (some a) len cap) ((List.range len).map fun r => (Z r).take (L r)) := by
  have hlen : ((List.range len).map fun r => (Z r).take (L r)).length = len := by simp
  refine ⟨some a, cap, by rw [hlen], ?_⟩
  by_cases h0 : len = 0
  · subst h0; exact .inl rfl
  right
  obtain ⟨b, off, sp⟩ := a
  have hsp : sp = none := by
    have hx0 := (h 0 (by omega)).1
    cases sp with
    | none => rfl
    | some s => simp [Addr.add, World.cell?] at hx0; split at hx0 <;> simp at hx0
  subst hsp
  refine ⟨b, off, rfl, ?_, by rw [hlen]; exact hl, fun j hj => ?_⟩
  · have := (h 0 (by omega)).1
    exact World.block_lt_of_cell? w _ this
  · rw [hlen] at hj
    obtain ⟨h1, h2, h3, h4, h5, h6, h7⟩ := h j (by omega)
    have hz : ((List.range len).map fun r => (Z r).take (L r)).getD j [] = (Z j).take (L j) := by simp [List.getD, hj]
    rw [Addr.add_lit] at h1
    refine ⟨_, h1, ?_, ?_⟩
    · rw [hz]
      refine Rd.ofRow _ ?_ (Nat.le_refl _)
      cases hA : A j with
      | none =>
        have hC := h6 hA
        have hL : L j = 0 := by omega
        exact .inl ⟨rfl, hL, hC, List.eq_nil_of_length_eq_zero (by omega)⟩
      | some a' => exact .inr ⟨a', rfl, h2, h3, h4, fun i hi => h7 a' hA i (by omega), h5⟩
    · rw [hz]
      have : maxLen = 9223372036854775807 := rfl
      have := List.length_take_le (L j) (Z j)
      omega

theorem Rd2.nil (S : Nat → Prop) (w : World) : Rd2 S w (.slice none 0 0) [] := ⟨none, 0, rfl, .inl rfl⟩

end Go.Proofs.YtckgkgaoioigdaaDoor
