/-
  The plain law of the ring that chooses: no program in sight.
  Conditions: the names are well formed (elErr is 0).
-/
import Derived.Test.YtgpjjbfmckcjgaaDoorElD
namespace Go.Proofs.YtgpjjbfmckcjgaaDoor
open Go Go.RowKit

/-! ### Sums -/
def sumR (f : Nat → Nat) : Nat → Nat
  | 0 => 0
  | n + 1 => sumR f n + f n

theorem sumR_same {f g : Nat → Nat} : ∀ {n : Nat}, (∀ j, j < n → f j = g j) → sumR f n = sumR g n
  | 0, _ => rfl
  | n + 1, h => by rw [sumR, sumR, sumR_same fun j hj => h j (by omega), h n (by omega)]

theorem sumR_one {f g : Nat → Nat} {i : Nat} : ∀ {n : Nat}, i < n → (∀ j, j < n → j ≠ i → f j = g j) → sumR f n + g i = sumR g n + f i
  | n + 1, hi, h => by
    by_cases e : i = n
    · subst e; rw [sumR, sumR, sumR_same fun j hj => h j (by omega) (by omega)]; omega
    · have := sumR_one (n := n) (i := i) (by omega) fun j hj => h j (by omega)
      rw [sumR, sumR, h n (by omega) (Ne.symm e)]; omega

theorem sumR_le {f g : Nat → Nat} : ∀ {n : Nat}, (∀ j, j < n → f j ≤ g j) → sumR f n ≤ sumR g n
  | 0, _ => Nat.le_refl _
  | n + 1, h => by have := sumR_le (n := n) fun j hj => h j (by omega); have := h n (by omega); rw [sumR, sumR]; omega

theorem sumR_pos {f : Nat → Nat} {i : Nat} : ∀ {n : Nat}, i < n → f i ≤ sumR f n
  | n + 1, hi => by
    by_cases e : i = n
    · subst e; rw [sumR]; omega
    · have := sumR_pos (f := f) (n := n) (i := i) (by omega); rw [sumR]; omega

/-! ### The ring -/
/-- How many times a name is sent on from a node on, at most. -/
def hp (N : List Int) : Nat → Int → Nat → Nat
  | 0, _, _ => 0
  | f + 1, x, i => if N.getD i 0 < x then 1 + hp N f x ((i + 1) % N.length) else 0

/-- A name on its way to node i came of its own, past lesser ones alone. -/
def Safe (N : List Int) (x : Int) (i : Nat) : Prop := ∃ o d, o < N.length ∧ 1 ≤ d ∧ d ≤ N.length ∧ (o + d) % N.length = i ∧ N.getD o 0 = x ∧ ∀ e, 1 ≤ e → e < d → N.getD ((o + e) % N.length) 0 < x

def IsMax (N : List Int) (k : Nat) : Prop := ∀ j, j < N.length → N.getD j 0 ≤ N.getD k 0

theorem hp_stable (N : List Int) (x : Int) (hn : 0 < N.length) : ∀ (f i : Nat), i < N.length → (∃ k, k < f ∧ ¬ N.getD ((i + k) % N.length) 0 < x) → hp N f x i = hp N (f + 1) x i
  | 0, _, _, ⟨k, hk, _⟩ => by omega
  | f + 1, i, hi, ⟨k, hk, hx⟩ => by
    rw [hp, hp]
    split
    · rename_i hlt
      cases k with
      | zero => rw [Nat.add_zero, Nat.mod_eq_of_lt hi] at hx; exact absurd hlt hx
      | succ k =>
        rw [hp_stable N x hn f ((i + 1) % N.length) (Nat.mod_lt _ hn) ⟨k, by omega, by rw [Nat.mod_add_mod, Nat.add_assoc, Nat.add_comm 1 k]; exact hx⟩]
    · rfl

theorem hp_step {N : List Int} {x : Int} {i o : Nat} (hi : i < N.length) (ho : o < N.length) (hx : N.getD o 0 = x) (hlt : N.getD i 0 < x) : hp N N.length x i = 1 + hp N N.length x ((i + 1) % N.length) := by
  have hn : 0 < N.length := by omega
  have hk : (i + (o + N.length - i) % N.length) % N.length = o := by
    rw [Nat.add_mod_mod, show i + (o + N.length - i) = o + N.length by omega, Nat.add_mod_right, Nat.mod_eq_of_lt ho]
  rw [hp_stable N x hn N.length i hi ⟨(o + N.length - i) % N.length, Nat.mod_lt _ hn, by rw [hk, hx]; omega⟩, hp, if_pos hlt]

theorem hp_stop {N : List Int} {x : Int} {i : Nat} (hn : 0 < N.length) (h : ¬ N.getD i 0 < x) : hp N N.length x i = 0 := by
  obtain ⟨m, hm⟩ : ∃ m, N.length = m + 1 := ⟨N.length - 1, by omega⟩
  have : hp N (m + 1) x i = 0 := by rw [hp, if_neg h]
  rw [hm]; exact this

theorem Safe.max {N : List Int} {x : Int} {i : Nat} (hd : ∀ a b, a < N.length → b < N.length → N.getD a 0 = N.getD b 0 → a = b) (h : Safe N x i) (hi : i < N.length) (hx : x = N.getD i 0) : IsMax N i := by
  obtain ⟨o, d, ho, h1, h2, h3, h4, h5⟩ := h
  have hoi : o = i := hd o i ho hi (h4.trans hx)
  subst hoi
  have hdn : d = N.length := by
    refine Classical.byContradiction fun hne => ?_
    have hlt : d < N.length := by omega
    by_cases hw : o + d < N.length
    · rw [Nat.mod_eq_of_lt hw] at h3; omega
    · have : (o + d) % N.length = o + d - N.length := by rw [Nat.mod_eq_sub_mod (by omega), Nat.mod_eq_of_lt (by omega)]
      omega
  subst hdn
  intro j hj
  by_cases hjo : j = o
  · subst hjo; exact Int.le_refl _
  · have hk : (o + (j + N.length - o) % N.length) % N.length = j := by
      rw [Nat.add_mod_mod, show o + (j + N.length - o) = j + N.length by omega, Nat.add_mod_right, Nat.mod_eq_of_lt hj]
    have hpos : 1 ≤ (j + N.length - o) % N.length := by
      refine Classical.byContradiction fun hn => ?_
      have h0 : (j + N.length - o) % N.length = 0 := by omega
      rw [h0, Nat.add_zero, Nat.mod_eq_of_lt ho] at hk; exact hjo hk.symm
    have := h5 _ hpos (Nat.mod_lt _ (by omega))
    rw [hk] at this
    omega

theorem Safe.next {N : List Int} {x : Int} {i : Nat} (h : Safe N x i) (hlt : N.getD i 0 < x) : Safe N x ((i + 1) % N.length) := by
  obtain ⟨o, d, ho, h1, h2, h3, h4, h5⟩ := h
  have hdn : d ≠ N.length := by
    intro e; subst e
    rw [Nat.add_mod_right, Nat.mod_eq_of_lt ho] at h3
    subst h3; omega
  refine ⟨o, d + 1, ho, by omega, by omega, by rw [← h3, Nat.mod_add_mod, Nat.add_assoc], h4, fun e he1 he2 => ?_⟩
  by_cases hed : e = d
  · subst hed; rw [h3]; exact hlt
  · exact h5 e he1 (by omega)

theorem Safe.own {N : List Int} {i : Nat} (hi : i < N.length) : Safe N (N.getD i 0) ((i + 1) % N.length) :=
  ⟨i, 1, hi, Nat.le_refl _, by omega, rfl, rfl, fun e h1 h2 => by omega⟩

def msgs (s : Ring) (i : Nat) : Nat := ((s.way i).map fun x => 1 + hp s.names s.names.length x i).sum
def wgt (s : Ring) (i : Nat) : Nat := msgs s i + if s.begun.getD i false = true then 0 else 2 + hp s.names s.names.length (s.name i) (s.next i)
/-- What may still happen. -/
def pot (s : Ring) : Nat := sumR (wgt s) s.names.length

structure EInv (s : Ring) : Prop where
  l1 : s.begun.length = s.names.length
  l2 : s.ways.length = s.names.length
  l3 : 0 < s.names.length
  l4 : s.names.length ≤ 5
  dist : ∀ a b, a < s.names.length → b < s.names.length → s.names.getD a 0 = s.names.getD b 0 → a = b
  safe : ∀ i, i < s.names.length → ∀ x ∈ s.way i, Safe s.names x i
  lead : s.leader = -1 ∨ ∃ k : Nat, k < s.names.length ∧ s.leader = k ∧ IsMax s.names k
  live : s.leader ≠ -1 ∨ ∀ i, i < s.names.length → s.begun.getD i false = true → ∃ j, j < s.names.length ∧ ∃ y ∈ s.way j, s.name i ≤ y

theorem way_send (s : Ring) (hl : s.ways.length = s.names.length) (h0 : 0 < s.names.length) (i : Nat) (x : Int) (j : Nat) : (s.send i x).way j = if s.next i = j then s.way j ++ [x] else s.way j := by
  have hn : s.next i < s.ways.length := by rw [hl]; exact Nat.mod_lt _ h0
  show (s.ways.set _ _).getD j [] = _
  rw [getD_setL hn]
  split
  · rename_i e; rw [← e]; rfl
  · rfl

theorem way_pop (s : Ring) (i : Nat) (hi : i < s.ways.length) (j : Nat) : (s.pop i).way j = if i = j then (s.way i).tail else s.way j := by
  show (s.ways.set _ _).getD j [] = _
  rw [getD_setL hi]; rfl

theorem begun_mark (s : Ring) (i : Nat) (hi : i < s.begun.length) (j : Nat) : (s.mark i).begun.getD j false = if i = j then true else s.begun.getD j false := by
  show (s.begun.set _ _).getD j false = _
  rw [getD_setL hi]

/-- A name of the ring's is sent on by node i, which has begun then. -/
theorem EInv.send {s : Ring} (h : EInv s) {i : Nat} (hi : i < s.names.length) {x : Int} (hs : Safe s.names x (s.next i)) (hx : s.name i ≤ x) : EInv ((s.mark i).send i x) := by
  have hw : ∀ j, ((s.mark i).send i x).way j = if s.next i = j then s.way j ++ [x] else s.way j := way_send (s.mark i) h.l2 h.l3 i x
  have hn : s.next i < s.names.length := Nat.mod_lt _ h.l3
  have hb : ∀ j, ((s.mark i).send i x).begun.getD j false = if i = j then true else s.begun.getD j false := begun_mark s i (by rw [h.l1]; exact hi)
  refine ⟨by show (s.begun.set _ _).length = _; simp [h.l1]; rfl, by show (s.ways.set _ _).length = _; simp [h.l2]; rfl, h.l3, h.l4, h.dist, fun j hj y hy => ?_, h.lead, ?_⟩
  · rw [hw j] at hy
    split at hy
    · rename_i e
      rcases List.mem_append.1 hy with hy | hy
      · exact h.safe j hj y hy
      · obtain rfl : y = x := by simpa using hy
        rw [← e]; exact hs
    · exact h.safe j hj y hy
  · rcases h.live with hl | hl
    · exact .inl hl
    · refine .inr fun k hk hbk => ?_
      rw [hb k] at hbk
      by_cases e : i = k
      · subst e
        exact ⟨s.next i, hn, x, by rw [hw, if_pos rfl]; simp, hx⟩
      · rw [if_neg e] at hbk
        obtain ⟨j, hj, y, hy, hle⟩ := hl k hk hbk
        refine ⟨j, hj, y, ?_, hle⟩
        rw [hw j]; split
        · exact List.mem_append_left _ hy
        · exact hy

/-- What a send weighs, beside what the node weighed. -/
theorem pot_send {s : Ring} (h1 : s.begun.length = s.names.length) (h2 : s.ways.length = s.names.length) (h3 : 0 < s.names.length) {i : Nat} (hi : i < s.names.length) (x : Int) :
    pot ((s.mark i).send i x) + (if s.begun.getD i false = true then 0 else 2 + hp s.names s.names.length (s.name i) (s.next i)) = pot s + (1 + hp s.names s.names.length x (s.next i)) := by
  have hw : ∀ j, ((s.mark i).send i x).way j = if s.next i = j then s.way j ++ [x] else s.way j := way_send (s.mark i) h2 h3 i x
  have hn : s.next i < s.names.length := Nat.mod_lt _ h3
  have hb : ∀ j, ((s.mark i).send i x).begun.getD j false = if i = j then true else s.begun.getD j false := begun_mark s i (by rw [h1]; exact hi)
  have e1 : pot (s.mark i) + (if s.begun.getD i false = true then 0 else 2 + hp s.names s.names.length (s.name i) (s.next i)) = pot s := by
    have hbm := begun_mark s i (by rw [h1]; exact hi)
    have := sumR_one (f := wgt (s.mark i)) (g := wgt s) (n := s.names.length) hi fun j hj hne => by
      show msgs s j + _ = msgs s j + _
      rw [hbm j, if_neg (Ne.symm hne)]; rfl
    have e2 : wgt s i = wgt (s.mark i) i + (if s.begun.getD i false = true then 0 else 2 + hp s.names s.names.length (s.name i) (s.next i)) := by
      show msgs s i + _ = msgs s i + (if (s.mark i).begun.getD i false = true then 0 else _) + _
      rw [hbm i, if_pos rfl, if_pos rfl]; rfl
    unfold pot
    have e3 : (s.mark i).names.length = s.names.length := rfl
    rw [e3]; omega
  have e2 : pot ((s.mark i).send i x) = pot (s.mark i) + (1 + hp s.names s.names.length x (s.next i)) := by
    have := sumR_one (f := wgt ((s.mark i).send i x)) (g := wgt (s.mark i)) (n := s.names.length) hn fun j hj hne => by
      show msgs ((s.mark i).send i x) j + _ = msgs (s.mark i) j + _
      unfold msgs
      rw [hw j, if_neg (Ne.symm hne)]; rfl
    have e4 : wgt ((s.mark i).send i x) (s.next i) = wgt (s.mark i) (s.next i) + (1 + hp s.names s.names.length x (s.next i)) := by
      have : msgs ((s.mark i).send i x) (s.next i) = msgs (s.mark i) (s.next i) + (1 + hp s.names s.names.length x (s.next i)) := by
        unfold msgs
        rw [hw, if_pos rfl, List.map_append, List.sum_append]
        simp only [List.map_cons, List.map_nil, List.sum_cons, List.sum_nil]
        rfl
      show msgs ((s.mark i).send i x) (s.next i) + _ = msgs (s.mark i) (s.next i) + _ + _
      rw [this]
      show _ + (if (s.mark i).begun.getD (s.next i) false = true then 0 else _) = _ + (if (s.mark i).begun.getD (s.next i) false = true then 0 else _) + _
      have e5 : ((s.mark i).send i x).next (s.next i) = (s.mark i).next (s.next i) := rfl
      have e6 : ((s.mark i).send i x).name (s.next i) = (s.mark i).name (s.next i) := rfl
      rw [e5, e6]
      have e7 : ((s.mark i).send i x).names = (s.mark i).names := rfl
      rw [e7]; omega
    unfold pot
    have e3 : ((s.mark i).send i x).names.length = s.names.length := rfl
    have e3' : (s.mark i).names.length = s.names.length := rfl
    rw [e3, e3']; omega
  omega

theorem pot_pop {s : Ring} (h2 : s.ways.length = s.names.length) {i : Nat} (hi : i < s.names.length) {x : Int} {l : List Int} (hx : s.way i = x :: l) : pot (s.pop i) + (1 + hp s.names s.names.length x i) = pot s := by
  have hw := way_pop s i (by rw [h2]; exact hi)
  have := sumR_one (f := wgt (s.pop i)) (g := wgt s) (n := s.names.length) hi fun j hj hne => by
    show msgs (s.pop i) j + _ = msgs s j + _
    unfold msgs
    rw [hw j, if_neg (Ne.symm hne)]; rfl
  have e : msgs s i = msgs (s.pop i) i + (1 + hp s.names s.names.length x i) := by
    unfold msgs
    rw [hw i, if_pos rfl, hx, List.tail_cons, List.map_cons, List.sum_cons]
    show _ = (List.map (fun x => 1 + hp s.names s.names.length x i) l).sum + _
    omega
  have e2 : wgt s i = wgt (s.pop i) i + (1 + hp s.names s.names.length x i) := by
    show msgs s i + _ = msgs (s.pop i) i + _ + _
    rw [e]
    have e3 : (s.pop i).begun = s.begun := rfl
    have e4 : (s.pop i).names = s.names := rfl
    have e5 : (s.pop i).name i = s.name i := rfl
    have e6 : (s.pop i).next i = s.next i := rfl
    rw [e3, e4, e5, e6]; omega
  unfold pot
  have e3 : (s.pop i).names.length = s.names.length := rfl
  rw [e3]; omega

end Go.Proofs.YtgpjjbfmckcjgaaDoor
