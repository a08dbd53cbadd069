/-
  The net that tells all of all, plain: of one sender's notes each node has the first ones, in order.
  Conditions: none beyond those of each lemma.
-/
import Derived.Test.YtiakkhahohhpaaaDoorCsMath2
namespace Go.Proofs.YtiakkhahohhpaaaDoor

theorem cntOf_nn (s : CNet) (q : Nat) : ∀ l : List Int, 0 ≤ s.cntOf q l
  | [] => Int.le_refl _
  | x :: l => by
    have := cntOf_nn s q l
    unfold CNet.cntOf
    split <;> omega

theorem CInv.fifo {s : CNet} {o : Nat} (h : CInv s o) {p : Nat} (hp : p < s.n) {l1 l2 : List Int} {k : Nat} (hl : s.got p = l1 ++ (k : Int) :: l2) {j : Nat} (hj : (j : Int) ∈ l1) (hb : s.bys j = s.bys k) : j < k := by
  obtain ⟨a, b, e⟩ := List.append_of_mem hj
  have h1 := (h.ahead p hp l1 l2 k hl).2
  have h2 := (h.ahead p hp a (b ++ (k : Int) :: l2) j (by rw [hl, e]; simp)).2
  rw [e, cntOf_append, ← hb, CNet.cntOf, Int.toNat_natCast, if_pos rfl] at h1
  rw [← h2] at h1
  have hb0 := cntOf_nn s (s.bys j) b
  obtain ⟨j', ej, hj'⟩ := h.gotL p hp j (by rw [hl]; exact List.mem_append_left _ hj)
  obtain ⟨k', ek, hk'⟩ := h.gotL p hp k (by rw [hl]; simp)
  rcases Nat.lt_trichotomy j k with h3 | h3 | h3
  · exact h3
  · subst h3; omega
  · have := h.uni k j h3 (by omega) hb.symm; omega

/-- The list, cut at a place. -/
theorem split_at {l : List Int} {x : Nat} (hx : x < l.length) : l = l.take x ++ l.getD x 0 :: l.drop (x + 1) := by
  have : l.getD x 0 = l[x] := by simp [List.getD, hx]
  rw [this, List.getElem_cons_drop, List.take_append_drop]

theorem take_succ_at {l : List Int} {x : Nat} (hx : x < l.length) : l.take (x + 1) = l.take x ++ [l.getD x 0] := by
  have : l.getD x 0 = l[x] := by simp [List.getD, hx]
  rw [this, List.take_succ_eq_append_getElem hx]

/-- How far a walk over what a node has came: how many of each sender's, and which was the last one. -/
structure FifoAt (s : CNet) (p x : Nat) (many last : Nat → Int) : Prop where
  many : ∀ q, q < s.n → many q = s.cntOf q ((s.got p).take x)
  last : ∀ q, q < s.n → last q = -1 ∨ ∃ j : Nat, last q = j ∧ (j : Int) ∈ (s.got p).take x ∧ s.bys j = q

theorem FifoAt.start (s : CNet) (p : Nat) : FifoAt s p 0 (fun _ => 0) (fun _ => -1) :=
  ⟨fun _ _ => by simp [CNet.cntOf], fun _ _ => .inl rfl⟩

theorem FifoAt.at {s : CNet} {o p x : Nat} {many last : Nat → Int} (h : FifoAt s p x many last) (hs : CInv s o) (hp : p < s.n) (hx : x < (s.got p).length) :
    ∃ k : Nat, (s.got p).getD x 0 = k ∧ k < s.m ∧ s.vec k (s.bys k) = many (s.bys k) ∧ last (s.bys k) < (k : Int) ∧ FifoAt s p (x + 1) (put1 many (s.bys k) (many (s.bys k) + 1)) (put1 last (s.bys k) k) := by
  have hsp := split_at hx
  obtain ⟨k, ek, hk⟩ := hs.gotL p hp ((s.got p).getD x 0) (by
    rw [List.getD, List.getElem?_eq_getElem hx]; exact List.getElem_mem hx)
  have hts := take_succ_at hx
  rw [ek] at hsp hts
  have hb := hs.byl k hk
  refine ⟨k, ek, hk, ?_, ?_, fun q hq => ?_, fun q hq => ?_⟩
  · rw [h.many _ hb]; exact (hs.ahead p hp _ _ k hsp).2
  · rcases h.last _ hb with e | ⟨j, e, hj, hjb⟩
    · rw [e]; omega
    · have := hs.fifo hp hsp hj hjb
      rw [e]; omega
  · rw [hts, cntOf_append, CNet.cntOf, CNet.cntOf, Int.toNat_natCast]
    by_cases e : q = s.bys k
    · subst e; rw [put1_self, if_pos rfl, h.many _ hq]; omega
    · rw [put1_ne _ _ e, if_neg (fun h => e h.symm), h.many _ hq]; omega
  · rw [hts]
    by_cases e : q = s.bys k
    · subst e; rw [put1_self]; exact .inr ⟨k, rfl, by simp, rfl⟩
    · rw [put1_ne _ _ e]
      rcases h.last q hq with e1 | ⟨j, e1, hj, hjb⟩
      · exact .inl e1
      · exact .inr ⟨j, e1, List.mem_append_left _ hj, hjb⟩

end Go.Proofs.YtiakkhahohhpaaaDoor
