/-
  What the document sees of who is near whom, plain: the list of what is reached is whole just if the set of what is reached is.
  Conditions: none beyond those of each lemma.
-/
import Derived.Test.YtckgkgaoioigdaaDoorEcMath4
namespace Go.Proofs.YtckgkgaoioigdaaDoor

theorem reach1_bit {l : List Int} {r q : Nat} (h : r.testBit q = true) : ∀ i, (reach1 l r i).testBit q = true
  | 0 => h
  | i + 1 => by
    unfold reach1
    split
    · rw [Nat.testBit_or, reach1_bit h i]; rfl
    · exact reach1_bit h i
theorem reach1_near {l : List Int} {r p q : Nat} (h : r.testBit p = true) (hn : (nearOf l p).testBit q = true) : ∀ i, p < i → (reach1 l r i).testBit q = true
  | 0, hp => by omega
  | i + 1, hp => by
    unfold reach1
    by_cases e : p = i
    · subst e
      rw [if_pos (reach1_bit h p), Nat.testBit_or, hn, Bool.or_true]
    · have ih := reach1_near h hn i (by omega)
      split
      · rw [Nat.testBit_or, ih]; rfl
      · exact ih
theorem reachN_step {l : List Int} {k q : Nat} (h : (reachN l k).testBit q = true) : (reachN l (k + 1)).testBit q = true := by
  rw [reachN]; exact reach1_bit h _
theorem reachN_mono {l : List Int} {q k : Nat} (h : (reachN l k).testBit q = true) : ∀ d, (reachN l (k + d)).testBit q = true
  | 0 => h
  | d + 1 => reachN_step (reachN_mono h d)
theorem reachN_next {l : List Int} {k p q : Nat} (hp : p < l.length) (h : (reachN l k).testBit p = true) (hn : (nearOf l p).testBit q = true) : (reachN l (k + 1)).testBit q = true := by
  rw [reachN]; exact reach1_near h hn _ hp

theorem come_nodup_le : ∀ (n : Nat) (cl : List Int), cl.Nodup → (∀ x ∈ cl, 0 ≤ x ∧ x < n) → cl.length ≤ n
  | 0, [], _, _ => Nat.le_refl _
  | 0, x :: cl, _, h => by have := h x (List.mem_cons_self ..); omega
  | n + 1, cl, hd, h => by
    have h1 := come_nodup_le n (cl.erase (n : Int)) (hd.erase _) (fun x hx => by
      have h2 := h x (List.mem_of_mem_erase hx)
      have h3 : x ≠ n := fun e => by subst e; exact hd.not_mem_erase hx
      omega)
    have h2 : cl.length ≤ (cl.erase (n : Int)).length + 1 := by rw [List.length_erase]; split <;> omega
    omega
theorem all_in_le : ∀ (n : Nat) (cl : List Int), (∀ q : Nat, q < n → (q : Int) ∈ cl) → n ≤ cl.length
  | 0, _, _ => Nat.zero_le _
  | n + 1, cl, h => by
    have h0 := h n (by omega)
    have h1 := all_in_le n (cl.erase (n : Int)) (fun q hq => (List.mem_erase_of_ne (by omega)).2 (h q (by omega)))
    have h2 := List.length_erase_of_mem h0
    have h3 := List.length_pos_of_mem h0
    omega

/-- What is reached, in the order in which it was found; of the first k all that is near is found, of the next one the first j. -/
structure Come (l : List Int) (k j : Nat) (cl : List Int) : Prop where
  nodup : cl.Nodup
  el : ∀ i, i < cl.length → ∃ a : Nat, cl.getD i 0 = a ∧ a < l.length ∧ (reachN l i).testBit a = true
  pos : (0 : Int) ∈ cl
  done : ∀ i a : Nat, (i < k ∨ i = k ∧ a < j) → i < cl.length → a < l.length → (nearOf l (cl.getD i 0).toNat).testBit a = true → (a : Int) ∈ cl

theorem Come.mem {l : List Int} {k j : Nat} {cl : List Int} (h : Come l k j cl) {x : Int} (hx : x ∈ cl) : ∃ i, i < cl.length ∧ cl.getD i 0 = x := by
  obtain ⟨i, hi, e⟩ := List.getElem_of_mem hx
  exact ⟨i, hi, by rw [List.getD, List.getElem?_eq_getElem hi]; exact e⟩
theorem Come.le {l : List Int} {k j : Nat} {cl : List Int} (h : Come l k j cl) : cl.length ≤ l.length :=
  come_nodup_le _ _ h.nodup fun x hx => by
    obtain ⟨i, hi, e⟩ := h.mem hx
    obtain ⟨a, e1, h1, -⟩ := h.el i hi
    omega
theorem come_start {l : List Int} (hl : 0 < l.length) : Come l 0 0 [0] where
  nodup := by simp
  el := fun i hi => by
    have : i = 0 := by simp at hi; omega
    subst this
    exact ⟨0, rfl, hl, by rw [reachN]; decide⟩
  pos := by simp
  done := fun i a h => by omega
theorem Come.skip {l : List Int} {k j : Nat} {cl : List Int} (h : Come l k j cl) (hs : (nearOf l (cl.getD k 0).toNat).testBit j = true → (j : Int) ∈ cl) : Come l k (j + 1) cl where
  nodup := h.nodup
  el := h.el
  pos := h.pos
  done := fun i a hia hi ha hb => by
    by_cases e : i = k ∧ a = j
    · obtain ⟨rfl, rfl⟩ := e; exact hs hb
    · exact h.done i a (by omega) hi ha hb
theorem Come.row {l : List Int} {k j : Nat} {cl : List Int} (h : Come l k j cl) (hj : l.length ≤ j) : Come l (k + 1) 0 cl where
  nodup := h.nodup
  el := h.el
  pos := h.pos
  done := fun i a hia hi ha hb => h.done i a (by omega) hi ha hb
theorem getD_app {cl : List Int} {x : Int} {i : Nat} (hi : i < cl.length) : (cl ++ [x]).getD i 0 = cl.getD i 0 := by
  rw [List.getD, List.getD, List.getElem?_append_left hi]
theorem Come.add {l : List Int} {k j : Nat} {cl : List Int} (h : Come l k j cl) (hk : k < cl.length) (hj : j < l.length) (hb : (nearOf l (cl.getD k 0).toNat).testBit j = true) (hn : (j : Int) ∉ cl) : Come l k (j + 1) (cl ++ [(j : Int)]) where
  nodup := by
    rw [List.nodup_append]
    exact ⟨h.nodup, by simp, fun a ha b hb e => hn (by
      rw [List.mem_singleton] at hb
      rw [← hb, ← e]; exact ha)⟩
  el := fun i hi => by
    rw [List.length_append, List.length_singleton] at hi
    by_cases e : i < cl.length
    · rw [getD_app e]; exact h.el i e
    · have : i = cl.length := by omega
      subst this
      obtain ⟨a, e1, h1, h2⟩ := h.el k hk
      rw [e1] at hb
      have h3 := reachN_mono (reachN_next h1 h2 hb) (cl.length - (k + 1))
      rw [show k + 1 + (cl.length - (k + 1)) = cl.length by omega] at h3
      exact ⟨j, by simp [List.getD], hj, h3⟩
  pos := List.mem_append_left _ h.pos
  done := fun i a hia hi ha hb' => by
    by_cases e : i = k ∧ a = j
    · obtain ⟨rfl, rfl⟩ := e; simp
    · rw [List.length_append, List.length_singleton] at hi
      have hil : i < cl.length := by omega
      rw [getD_app hil] at hb'
      exact List.mem_append_left _ (h.done i a (by omega) hil ha hb')
theorem Come.fin {l : List Int} {j : Nat} {cl : List Int} (h : Come l cl.length j cl) (hm : ∀ i, i < l.length → nearOf l i < 2 ^ l.length) (h1 : 1 ≤ l.length) : (cl.length < l.length ↔ reachN l l.length ≠ 2 ^ l.length - 1) := by
  constructor
  · intro hlt e
    have := all_in_le l.length cl (fun q hq => reachN_in (A := fun q => (q : Int) ∈ cl) h.pos (fun p q hp hq hpc hb => by
      obtain ⟨i, hi, e2⟩ := h.mem hpc
      exact h.done i q (.inl hi) hi hq (by rw [e2]; exact hb)) l.length q hq (by rw [e, Nat.testBit_two_pow_sub_one]; simp [hq]))
    omega
  · intro hne
    rcases Nat.lt_or_ge cl.length l.length with hc | hc
    · exact hc
    refine absurd ?_ hne
    have hp := Nat.two_pow_pos l.length
    refine bits_eq (n := l.length) (reachN_lt hm h1 _) (by omega) fun q hq => ?_
    rw [Nat.testBit_two_pow_sub_one, decide_eq_true hq]
    have hin : (q : Int) ∈ cl := Classical.byContradiction fun hn => by
      have := come_nodup_le l.length ((q : Int) :: cl) (List.nodup_cons.2 ⟨hn, h.nodup⟩) (fun x hx => by
        rcases List.mem_cons.1 hx with e | hx
        · omega
        · obtain ⟨i, hi, e⟩ := h.mem hx
          obtain ⟨a, e1, h1, -⟩ := h.el i hi
          omega)
      rw [List.length_cons] at this
      omega
    obtain ⟨i, hi, e⟩ := h.mem hin
    obtain ⟨a, e1, h2, h3⟩ := h.el i hi
    obtain rfl : a = q := by omega
    have hle := h.le
    have h4 := reachN_mono h3 (l.length - i)
    rwa [show i + (l.length - i) = l.length by omega] at h4

end Go.Proofs.YtckgkgaoioigdaaDoor
