/-
  The wave that comes back, plain: what is wrong with who is near whom.
  Conditions: none beyond those of each lemma.
-/
import Derived.Test.YtckgkgaoioigdaaDoorEcMath3
namespace Go.Proofs.YtckgkgaoioigdaaDoor

def nearOf (l : List Int) (i : Nat) : Nat := (l.getD i 0).toNat
def maskB (l : List Int) (i : Nat) : Bool := decide (0 ≤ l.getD i 0) && decide (l.getD i 0 < ((2 ^ l.length : Nat) : Int))
def clashB (l : List Int) (i j : Nat) : Bool := (nearOf l i).testBit j && (decide (i = j) || !((nearOf l j).testBit i))
/-- All that is near what is reached is reached, of the first i. -/
def reach1 (l : List Int) (r : Nat) : Nat → Nat
  | 0 => r
  | i + 1 => if (reach1 l r i).testBit i = true then reach1 l r i ||| nearOf l i else reach1 l r i
def reachN (l : List Int) : Nat → Nat
  | 0 => 1
  | k + 1 => reach1 l (reachN l k) l.length
def checkErr (l : List Int) : Int :=
  if l.length = 0 then 5 else if 5 < l.length then 4
  else if (List.range l.length).any (fun i => !maskB l i) = true then 1
  else if (List.range l.length).any (fun i => (List.range l.length).any fun j => clashB l i j) = true then 6
  else if reachN l l.length ≠ 2 ^ l.length - 1 then 3 else 0

theorem any_false {n : Nat} {f : Nat → Bool} (h : (List.range n).any f = false) {i : Nat} (hi : i < n) : f i = false := by
  cases e : f i with
  | false => rfl
  | true =>
    have : (List.range n).any f = true := List.any_eq_true.2 ⟨i, List.mem_range.2 hi, e⟩
    rw [h] at this; cases this
theorem any_true {n : Nat} {f : Nat → Bool} {i : Nat} (hi : i < n) (e : f i = true) : (List.range n).any f = true := List.any_eq_true.2 ⟨i, List.mem_range.2 hi, e⟩
theorem any_none {n : Nat} {f : Nat → Bool} (h : ∀ i, i < n → f i = false) : (List.range n).any f = false := by
  cases e : (List.range n).any f with
  | false => rfl
  | true =>
    obtain ⟨i, hi, h2⟩ := List.any_eq_true.1 e
    rw [h i (List.mem_range.1 hi)] at h2; cases h2

theorem near_lt {l : List Int} {i : Nat} (h : maskB l i = true) : nearOf l i < 2 ^ l.length ∧ l.getD i 0 = (nearOf l i : Int) := by
  unfold maskB at h
  rw [Bool.and_eq_true, decide_eq_true_eq, decide_eq_true_eq] at h
  unfold nearOf
  refine ⟨?_, by omega⟩
  obtain ⟨h1, h2⟩ := h
  generalize (2 : Nat) ^ l.length = m at *
  omega

theorem reach1_lt {l : List Int} (hm : ∀ i, i < l.length → nearOf l i < 2 ^ l.length) {r : Nat} (hr : r < 2 ^ l.length) : ∀ i, i ≤ l.length → reach1 l r i < 2 ^ l.length
  | 0, _ => hr
  | i + 1, h => by
    have ih := reach1_lt hm hr i (by omega)
    unfold reach1
    split
    · exact Nat.or_lt_two_pow ih (hm i (by omega))
    · exact ih
theorem reachN_lt {l : List Int} (hm : ∀ i, i < l.length → nearOf l i < 2 ^ l.length) (h1 : 1 ≤ l.length) : ∀ k, reachN l k < 2 ^ l.length
  | 0 => Nat.one_lt_two_pow (by omega)
  | k + 1 => reach1_lt hm (reachN_lt hm h1 k) _ (Nat.le_refl _)

theorem reach1_in {l : List Int} {A : Nat → Prop} (hA : ∀ p q, p < l.length → q < l.length → A p → (nearOf l p).testBit q = true → A q) (r : Nat) (hr : ∀ q, q < l.length → r.testBit q = true → A q) :
    ∀ i, i ≤ l.length → ∀ q, q < l.length → (reach1 l r i).testBit q = true → A q
  | 0, _, q, hq, h => hr q hq h
  | i + 1, hi, q, hq, h => by
    unfold reach1 at h
    by_cases e : (reach1 l r i).testBit i = true
    · rw [if_pos e, Nat.testBit_or, Bool.or_eq_true] at h
      rcases h with h | h
      · exact reach1_in hA r hr i (by omega) q hq h
      · exact hA i q (by omega) hq (reach1_in hA r hr i (by omega) i (by omega) e) h
    · rw [if_neg e] at h
      exact reach1_in hA r hr i (by omega) q hq h
theorem reachN_in {l : List Int} {A : Nat → Prop} (h0 : A 0) (hA : ∀ p q, p < l.length → q < l.length → A p → (nearOf l p).testBit q = true → A q) : ∀ k q, q < l.length → (reachN l k).testBit q = true → A q
  | 0, q, hq, h => by
    have : q = 0 := by
      have h : Nat.testBit 1 q = true := h
      rw [show (1 : Nat) = 2 ^ 0 from rfl, Nat.testBit_two_pow] at h
      have h := of_decide_eq_true h; omega
    subst this; exact h0
  | k + 1, q, hq, h => reach1_in hA _ (fun q hq h => reachN_in h0 hA k q hq h) l.length (Nat.le_refl _) q hq h

theorem check_net {l : List Int} (h : checkErr l = 0) : Net l.length (nearOf l) ∧ ∀ i, i < l.length → l.getD i 0 = (nearOf l i : Int) := by
  unfold checkErr at h
  split at h
  · cases h
  rename_i h0
  split at h
  · cases h
  rename_i h5
  split at h
  · cases h
  rename_i hm
  split at h
  · cases h
  rename_i hc
  split at h
  · cases h
  rename_i hr
  have hmask : ∀ i, i < l.length → maskB l i = true := fun i hi => by
    have := any_false (f := fun i => !maskB l i) (by simpa using hm) hi
    simpa using this
  have hclash : ∀ i j, i < l.length → j < l.length → clashB l i j = false := fun i j hi hj => by
    have h1 := any_false (f := fun i => (List.range l.length).any fun j => clashB l i j) (by simpa using hc) hi
    exact any_false (f := fun j => clashB l i j) h1 hj
  have hlt : ∀ i, i < l.length → nearOf l i < 2 ^ l.length := fun i hi => (near_lt (hmask i hi)).1
  have hall : ∀ q, q < l.length → (reachN l l.length).testBit q = true := fun q hq => by
    have e : reachN l l.length = 2 ^ l.length - 1 := Classical.not_not.1 hr
    rw [e, Nat.testBit_two_pow_sub_one]; simp [hq]
  have hfw : ∀ p q, p < l.length → q < l.length → (nearOf l p).testBit q = true → p ≠ q ∧ (nearOf l q).testBit p = true := fun p q hp hq h => by
    have := hclash p q hp hq
    unfold clashB at this
    rw [h] at this
    simp at this
    exact this
  refine ⟨{
    n1 := by omega
    n5 := by omega
    lt := hlt
    sym := fun p q hp hq => ?_
    irr := fun p hp => ?_
    conn := fun A hA0 hA p hp => reachN_in hA0 hA l.length p hp (hall p hp) }, fun i hi => (near_lt (hmask i hi)).2⟩
  · cases e1 : (nearOf l p).testBit q with
    | true => exact (hfw p q hp hq e1).2.symm
    | false =>
      cases e2 : (nearOf l q).testBit p with
      | false => rfl
      | true => rw [(hfw q p hq hp e2).2] at e1; cases e1
  · cases e1 : (nearOf l p).testBit p with
    | false => rfl
    | true => exact absurd rfl (hfw p p hp hp e1).1

end Go.Proofs.YtckgkgaoioigdaaDoor
