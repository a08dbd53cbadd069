/-
  The plain law of the ring that chooses, II: what a beginning and a hearing do, and how much may happen.
  Conditions: the names are well formed (elErr is 0).
-/
import Derived.Test.YtgpjjbfmckcjgaaDoorElMath
namespace Go.Proofs.YtgpjjbfmckcjgaaDoor
open Go Go.RowKit

theorem hp_le (N : List Int) (x : Int) (hn : 0 < N.length) : ∀ (f i : Nat), i < N.length → hp N f x i ≤ sumR (fun k => if N.getD ((i + k) % N.length) 0 < x then 1 else 0) f
  | 0, _, _ => Nat.le_refl _
  | f + 1, i, hi => by
    have hs : ∀ (g : Nat → Nat) m, sumR g (m + 1) = g 0 + sumR (fun k => g (k + 1)) m := by
      intro g m
      induction m with
      | zero => simp [sumR]
      | succ m ih => rw [sumR, ih, sumR]; omega
    rw [hp, hs]
    simp only [Nat.add_zero, Nat.mod_eq_of_lt hi]
    split
    · have := hp_le N x hn f ((i + 1) % N.length) (Nat.mod_lt _ hn)
      have e : ∀ k, ((i + 1) % N.length + k) % N.length = (i + (k + 1)) % N.length := fun k => by rw [Nat.mod_add_mod, Nat.add_assoc, Nat.add_comm 1 k]
      simp only [e] at this
      omega
    · omega

def lt1 (a b : Int) : Nat := if a < b then 1 else 0
theorem lt1_pair (a b : Int) : lt1 a b + lt1 b a ≤ 1 := by unfold lt1; split <;> split <;> omega
theorem lt1_self (a : Int) : lt1 a a = 0 := by unfold lt1; rw [if_neg (by omega)]

theorem total (y : Nat → Int) (n : Nat) (h1 : 0 < n) (h5 : n ≤ 5) : 2 * sumR (fun i => sumR (fun k => lt1 (y ((i + 1 + k) % n)) (y i)) n) n ≤ n * (n - 1) := by
  have p01 := lt1_pair (y 0) (y 1); have p02 := lt1_pair (y 0) (y 2); have p03 := lt1_pair (y 0) (y 3); have p04 := lt1_pair (y 0) (y 4)
  have p12 := lt1_pair (y 1) (y 2); have p13 := lt1_pair (y 1) (y 3); have p14 := lt1_pair (y 1) (y 4)
  have p23 := lt1_pair (y 2) (y 3); have p24 := lt1_pair (y 2) (y 4); have p34 := lt1_pair (y 3) (y 4)
  rcases (by omega : n = 1 ∨ n = 2 ∨ n = 3 ∨ n = 4 ∨ n = 5) with rfl | rfl | rfl | rfl | rfl <;> simp only [sumR, Nat.reduceAdd, Nat.reduceMod, lt1_self, Nat.zero_add, Nat.add_zero, Nat.reduceSub, Nat.reduceMul] <;> omega

theorem sumR_add (f g : Nat → Nat) : ∀ n, sumR (fun i => f i + g i) n = sumR f n + sumR g n
  | 0 => rfl
  | n + 1 => by rw [sumR, sumR, sumR, sumR_add f g n]; omega
theorem sumR_const (c : Nat) : ∀ n, sumR (fun _ => c) n = n * c
  | 0 => by simp [sumR]
  | n + 1 => by rw [sumR, sumR_const c n, Nat.succ_mul]

theorem init_way (l : List Int) (i : Nat) : (Ring.init l).way i = [] := by
  unfold Ring.way Ring.init
  by_cases hi : i < l.length
  · simp [List.getD, hi]
  · simp [List.getD, Nat.not_lt.1 hi]

theorem init_begun (l : List Int) (i : Nat) : (Ring.init l).begun.getD i false = false := by
  unfold Ring.init
  by_cases hi : i < l.length
  · simp [List.getD, hi]
  · simp [List.getD, Nat.not_lt.1 hi]

theorem elErr_ok {l : List Int} (h : elErr l = 0) : 0 < l.length ∧ l.length ≤ 5 ∧ (∀ a, a < l.length → inB (l.getD a 0) 1 1000 = true) ∧ ∀ a b, a < l.length → b < l.length → l.getD a 0 = l.getD b 0 → a = b := by
  unfold elErr at h
  split at h
  · omega
  split at h
  · omega
  have hz := firstErr_zero h
  have hlt : ∀ a b, b < l.length → a < b → l.getD a 0 ≠ l.getD b 0 := fun a b hb hab e => by
    have := hz b hb
    unfold chkName at this
    split at this
    · omega
    split at this
    · omega
    rename_i hc
    apply hc
    rw [List.contains_iff_mem, ← e]
    have ha : a < l.length := by omega
    have : l.getD a 0 = (l.take b)[a]'(by rw [List.length_take]; omega) := by simp [List.getD, ha]
    rw [this]; exact List.getElem_mem _
  refine ⟨by omega, by omega, fun a ha => ?_, fun a b ha hb e => ?_⟩
  · have := hz a ha
    unfold chkName at this
    split at this
    · omega
    · rename_i hin; simpa using hin
  · rcases Nat.lt_trichotomy a b with hab | hab | hab
    · exact absurd e (hlt a b hb hab)
    · exact hab
    · exact absurd e.symm (hlt b a ha hab)

theorem EInv.init {l : List Int} (h : elErr l = 0) : EInv (Ring.init l) ∧ 2 * pot (Ring.init l) ≤ l.length * (l.length + 1) + 2 * l.length := by
  obtain ⟨h0, h5, _, hd⟩ := elErr_ok h
  refine ⟨⟨by simp [Ring.init], by simp [Ring.init], h0, h5, hd, (fun i _ x hx => by rw [init_way] at hx; cases hx), .inl rfl, .inr (fun i _ hb => by rw [init_begun] at hb; cases hb)⟩, ?_⟩
  have hle : pot (Ring.init l) ≤ sumR (fun i => 2 + sumR (fun k => lt1 (l.getD ((i + 1 + k) % l.length) 0) (l.getD i 0)) l.length) l.length := by
    refine sumR_le fun i hi => ?_
    have hi' : i < l.length := hi
    show msgs (Ring.init l) i + _ ≤ _
    unfold msgs
    rw [init_way, init_begun, if_neg (by simp)]
    have h6 := hp_le l (l.getD i 0) h0 l.length ((i + 1) % l.length) (Nat.mod_lt _ h0)
    simp only [Nat.mod_add_mod] at h6
    show 0 + (2 + hp l l.length (l.getD i 0) ((i + 1) % l.length)) ≤ _
    have : sumR (fun k => if l.getD ((i + 1 + k) % l.length) 0 < l.getD i 0 then 1 else 0) l.length = sumR (fun k => lt1 (l.getD ((i + 1 + k) % l.length) 0) (l.getD i 0)) l.length := rfl
    omega
  rw [sumR_add, sumR_const] at hle
  have ht := total (fun j => l.getD j 0) l.length h0 h5
  have e1 : l.length * (l.length - 1) + l.length = l.length * l.length := by
    rw [Nat.mul_sub, Nat.mul_one]; have := Nat.le_mul_self l.length; omega
  rw [Nat.mul_add, Nat.mul_one]
  omega

/-- What a move leaves: the law holds, no more may happen than before, who began has begun. -/
structure Moves (s s' : Ring) : Prop where
  inv : EInv s'
  tot : s'.sent + pot s' ≤ s.sent + pot s
  dn : pot s' ≤ pot s
  nm : s'.names = s.names
  bg : ∀ j, s.begun.getD j false = true → s'.begun.getD j false = true

theorem Moves.refl {s : Ring} (h : EInv s) : Moves s s := ⟨h, Nat.le_refl _, Nat.le_refl _, rfl, fun _ h => h⟩
theorem Moves.trans {a b c : Ring} (h : Moves a b) (k : Moves b c) : Moves a c :=
  ⟨k.inv, Nat.le_trans k.tot h.tot, Nat.le_trans k.dn h.dn, k.nm.trans h.nm, fun j hj => k.bg j (h.bg j hj)⟩

theorem has_iff (s : Ring) (i : Int) (h : s.has i = true) : ∃ k : Nat, i = k ∧ k < s.names.length := by
  have hib : 0 ≤ i ∧ i ≤ (s.names.length : Int) - 1 := by simpa [Ring.has, inB] using h
  obtain ⟨k, rfl⟩ := Int.eq_ofNat_of_zero_le hib.1
  exact ⟨k, rfl, by omega⟩

theorem bg_send {s : Ring} (h : EInv s) {i : Nat} (hi : i < s.names.length) (x : Int) (j : Nat) (hj : s.begun.getD j false = true) : ((s.mark i).send i x).begun.getD j false = true := by
  have := begun_mark s i (by rw [h.l1]; exact hi) j
  show (s.mark i).begun.getD j false = true
  rw [this]; split <;> simp_all

theorem Moves.beg {s : Ring} (h : EInv s) (i : Int) : Moves s (s.beg i) := by
  unfold Ring.beg
  by_cases he : s.bgErr i = 0
  case neg => rw [if_neg he]; exact Moves.refl h
  rw [if_pos he]
  unfold Ring.bgErr at he
  split at he
  · omega
  split at he
  · omega
  rename_i hh hb
  obtain ⟨k, rfl, hk⟩ := has_iff s i (by simpa using hh)
  rw [Int.toNat_natCast] at hb ⊢
  have hinv := h.send hk (Safe.own hk) (Int.le_refl _)
  have hp := pot_send h.l1 h.l2 h.l3 hk (s.name k)
  rw [if_neg hb] at hp
  refine ⟨hinv, ?_, by omega, rfl, bg_send h hk _⟩
  show s.sent + 1 + pot ((s.mark k).send k (s.name k)) ≤ _
  omega

theorem EInv.pop {s : Ring} (h : EInv s) {i : Nat} (hi : i < s.names.length) {x : Int} {l : List Int} (_hx : s.way i = x :: l)
    (hlive : s.leader ≠ -1 ∨ ∀ k, k < s.names.length → s.begun.getD k false = true → ∃ j, j < s.names.length ∧ ∃ y ∈ (s.pop i).way j, s.name k ≤ y) : EInv (s.pop i) := by
  have hw := way_pop s i (by rw [h.l2]; exact hi)
  refine ⟨h.l1, by show (s.ways.set _ _).length = _; simp [h.l2]; rfl, h.l3, h.l4, h.dist, fun j hj y hy => ?_, h.lead, hlive⟩
  rw [hw j] at hy
  split at hy
  · rename_i e; subst e; exact h.safe i hi y (List.mem_of_mem_tail hy)
  · exact h.safe j hj y hy

theorem Moves.step {s : Ring} (h : EInv s) (i : Int) : Moves s (s.step i) ∧ (s.stErr i = 0 → pot (s.step i) + 1 ≤ pot s) ∧ ∀ j : Nat, (j : Int) ≠ i → s.way j ≠ [] → (s.step i).way j ≠ [] := by
  unfold Ring.step
  by_cases he : s.stErr i = 0
  case neg => rw [if_neg he]; exact ⟨Moves.refl h, fun h0 => absurd h0 he, fun j _ hj => hj⟩
  rw [if_pos he]
  have he2 := he
  unfold Ring.stErr at he2
  split at he2
  · omega
  split at he2
  · omega
  rename_i hh hw0
  obtain ⟨k, rfl, hk⟩ := has_iff s i (by simpa using hh)
  rw [Int.toNat_natCast] at hw0 ⊢
  obtain ⟨x, l, hx⟩ : ∃ x l, s.way k = x :: l := by
    cases e : s.way k with
    | nil => exact absurd e hw0
    | cons x l => exact ⟨x, l, rfl⟩
  rw [hx, List.headD_cons]
  have hpp := pot_pop h.l2 hk hx
  have hsafe := h.safe k hk x (by rw [hx]; simp)
  have hwp := way_pop s k (by rw [h.l2]; exact hk)
  have hne : ∀ j : Nat, (j : Int) ≠ (k : Int) → s.way j ≠ [] → (s.pop k).way j ≠ [] := fun j hjk hj => by rw [hwp j, if_neg (by omega)]; exact hj
  have hk' : k < (s.pop k).names.length := hk
  have hsend : ∀ y, ((s.pop k).mark k).send k y = ((s.pop k).mark k).send k y := fun _ => rfl
  have hne2 : ∀ (y : Int) (j : Nat), (j : Int) ≠ (k : Int) → s.way j ≠ [] → (((s.pop k).mark k).send k y).way j ≠ [] := fun y j hjk hj => by
    rw [way_send ((s.pop k).mark k) (by show (s.ways.set _ _).length = _; simp [h.l2]; rfl) h.l3 k y j]
    split
    · simp
    · exact hne j hjk hj
  unfold Ring.hear
  by_cases h1 : x = (s.pop k).name k
  · rw [if_pos h1]
    have hmax := hsafe.max h.dist hk h1
    have hp0 : hp s.names s.names.length x k = 0 := hp_stop h.l3 (by rw [h1]; show ¬ s.names.getD k 0 < s.names.getD k 0; omega)
    have hpe := h.pop hk hx
    have e0 : pot { s.pop k with leader := (k : Int) } = pot (s.pop k) := rfl
    refine ⟨⟨⟨h.l1, by show (s.ways.set _ _).length = _; simp [h.l2]; rfl, h.l3, h.l4, h.dist, fun j hj y hy => ?_, .inr ⟨k, hk, rfl, hmax⟩, .inl (by show (k : Int) ≠ -1; omega)⟩, ?_, by rw [e0]; omega, rfl, fun _ h => h⟩, fun _ => by rw [e0]; omega, hne⟩
    · have hy' : y ∈ (s.pop k).way j := hy
      rw [hwp j] at hy'
      split at hy'
      · rename_i e; subst e; exact h.safe k hk y (List.mem_of_mem_tail hy')
      · exact h.safe j hj y hy'
    · rw [e0]; show s.sent + _ ≤ _; omega
  rw [if_neg h1]
  by_cases h2 : (s.pop k).name k < x
  · rw [if_pos h2]
    have h2' : s.names.getD k 0 < x := h2
    obtain ⟨o, d, ho, _, _, _, hox, _⟩ := hsafe
    have hst := hp_step hk ho hox h2'
    have hsn := (h.safe k hk x (by rw [hx]; simp)).next h2'
    have hp2 := pot_send (s := s.pop k) h.l1 (by show (s.ways.set _ _).length = _; simp [h.l2]; rfl) h.l3 hk' x
    have e1 : (s.pop k).names = s.names := rfl
    have e2 : (s.pop k).next k = (k + 1) % s.names.length := rfl
    rw [e1, e2] at hp2
    -- the law of the ring behind a name that is sent on
    have hinv : EInv (((s.pop k).mark k).send k x) := by
      have hw2 := way_send ((s.pop k).mark k) (by show (s.ways.set _ _).length = _; simp [h.l2]; rfl) h.l3 k x
      have hb2 := begun_mark (s.pop k) k (by show k < s.begun.length; rw [h.l1]; exact hk)
      have hnx : ((s.pop k).mark k).next k = (k + 1) % s.names.length := rfl
      have hnl : (k + 1) % s.names.length < s.names.length := Nat.mod_lt _ h.l3
      refine ⟨by show (s.begun.set _ _).length = _; simp [h.l1]; rfl, by show ((s.ways.set _ _).set _ _).length = _; simp [h.l2]; rfl, h.l3, h.l4, h.dist, fun j hj y hy => ?_, h.lead, ?_⟩
      · rw [hw2 j] at hy
        have hold : ∀ y ∈ ((s.pop k).mark k).way j, Safe s.names y j := fun y hy => by
          have hy' : y ∈ (s.pop k).way j := hy
          rw [hwp j] at hy'
          split at hy'
          · rename_i e; subst e; exact h.safe k hk y (List.mem_of_mem_tail hy')
          · exact h.safe j hj y hy'
        split at hy
        · rename_i e
          rcases List.mem_append.1 hy with hy | hy
          · exact hold y hy
          · obtain rfl : y = x := by simpa using hy
            rw [← e]; exact hsn
        · exact hold y hy
      · rcases h.live with hl | hl
        · exact .inl hl
        · refine .inr fun q hq hbq => ?_
          have hxin : x ∈ (((s.pop k).mark k).send k x).way ((k + 1) % s.names.length) := by rw [hw2, if_pos hnx]; simp
          have hbq2 : (if k = q then true else s.begun.getD q false) = true := by rw [← show (s.pop k).begun = s.begun from rfl, ← hb2 q]; exact hbq
          by_cases e : k = q
          · subst e; exact ⟨_, hnl, x, hxin, Int.le_of_lt h2⟩
          · rw [if_neg e] at hbq2
            obtain ⟨j, hj, y, hy, hle⟩ := hl q hq hbq2
            by_cases hjk : k = j
            · subst hjk
              rw [hx] at hy
              rcases List.mem_cons.1 hy with rfl | hy
              · exact ⟨_, hnl, y, hxin, hle⟩
              · refine ⟨k, hk, y, ?_, hle⟩
                have : y ∈ ((s.pop k).mark k).way k := by show y ∈ (s.pop k).way k; rw [hwp k, if_pos rfl, hx]; exact hy
                rw [hw2 k]; split
                · exact List.mem_append_left _ this
                · exact this
            · refine ⟨j, hj, y, ?_, hle⟩
              have : y ∈ ((s.pop k).mark k).way j := by show y ∈ (s.pop k).way j; rw [hwp j, if_neg hjk]; exact hy
              rw [hw2 j]; split
              · exact List.mem_append_left _ this
              · exact this
    have hpd : pot (((s.pop k).mark k).send k x) + 1 ≤ pot s := by
      have : 0 ≤ (if (s.pop k).begun.getD k false = true then 0 else 2 + hp s.names s.names.length ((s.pop k).name k) ((k + 1) % s.names.length)) := Nat.zero_le _
      omega
    refine ⟨⟨hinv, ?_, by omega, rfl, fun j hj => ?_⟩, fun _ => hpd, hne2 x⟩
    · show s.sent + 1 + _ ≤ _; omega
    · show ((s.pop k).mark k).begun.getD j false = true
      rw [begun_mark (s.pop k) k (by show k < s.begun.length; rw [h.l1]; exact hk) j]
      split
      · rfl
      · exact hj
  rw [if_neg h2]
  have hlt : x < s.name k := by
    have h1' : ¬ x = s.name k := h1
    have h2' : ¬ s.name k < x := h2
    omega
  have hp0 : hp s.names s.names.length x k = 0 := hp_stop h.l3 (by have : s.name k = s.names.getD k 0 := rfl; omega)
  by_cases h3 : (s.pop k).begun.getD k false = false
  · rw [if_pos h3]
    have hp2 := pot_send (s := s.pop k) h.l1 (by show (s.ways.set _ _).length = _; simp [h.l2]; rfl) h.l3 hk' ((s.pop k).name k)
    rw [if_neg (by rw [h3]; simp)] at hp2
    have hinv : EInv (((s.pop k).mark k).send k ((s.pop k).name k)) := by
      have hw2 := way_send ((s.pop k).mark k) (by show (s.ways.set _ _).length = _; simp [h.l2]; rfl) h.l3 k ((s.pop k).name k)
      have hb2 := begun_mark (s.pop k) k (by show k < s.begun.length; rw [h.l1]; exact hk)
      have hnx : ((s.pop k).mark k).next k = (k + 1) % s.names.length := rfl
      have hnl : (k + 1) % s.names.length < s.names.length := Nat.mod_lt _ h.l3
      refine ⟨by show (s.begun.set _ _).length = _; simp [h.l1]; rfl, by show ((s.ways.set _ _).set _ _).length = _; simp [h.l2]; rfl, h.l3, h.l4, h.dist, fun j hj y hy => ?_, h.lead, ?_⟩
      · rw [hw2 j] at hy
        have hold : ∀ y ∈ ((s.pop k).mark k).way j, Safe s.names y j := fun y hy => by
          have hy' : y ∈ (s.pop k).way j := hy
          rw [hwp j] at hy'
          split at hy'
          · rename_i e; subst e; exact h.safe k hk y (List.mem_of_mem_tail hy')
          · exact h.safe j hj y hy'
        split at hy
        · rename_i e
          rcases List.mem_append.1 hy with hy | hy
          · exact hold y hy
          · obtain rfl : y = (s.pop k).name k := by simpa using hy
            rw [← e]; exact Safe.own hk
        · exact hold y hy
      · rcases h.live with hl | hl
        · exact .inl hl
        · refine .inr fun q hq hbq => ?_
          have hxin : s.name k ∈ (((s.pop k).mark k).send k ((s.pop k).name k)).way ((k + 1) % s.names.length) := by rw [hw2, if_pos hnx]; exact List.mem_append_right _ (by simp; rfl)
          have hbq2 : (if k = q then true else s.begun.getD q false) = true := by rw [← show (s.pop k).begun = s.begun from rfl, ← hb2 q]; exact hbq
          by_cases e : k = q
          · subst e; exact ⟨_, hnl, _, hxin, Int.le_refl _⟩
          · rw [if_neg e] at hbq2
            obtain ⟨j, hj, y, hy, hle⟩ := hl q hq hbq2
            by_cases hjk : k = j
            · subst hjk
              rw [hx] at hy
              rcases List.mem_cons.1 hy with rfl | hy
              · exact ⟨_, hnl, _, hxin, by show s.name q ≤ s.name k; omega⟩
              · refine ⟨k, hk, y, ?_, hle⟩
                have : y ∈ ((s.pop k).mark k).way k := by show y ∈ (s.pop k).way k; rw [hwp k, if_pos rfl, hx]; exact hy
                rw [hw2 k]; split
                · exact List.mem_append_left _ this
                · exact this
            · refine ⟨j, hj, y, ?_, hle⟩
              have : y ∈ ((s.pop k).mark k).way j := by show y ∈ (s.pop k).way j; rw [hwp j, if_neg hjk]; exact hy
              rw [hw2 j]; split
              · exact List.mem_append_left _ this
              · exact this
    have e1 : (s.pop k).names = s.names := rfl
    rw [e1] at hp2
    have hpd : pot (((s.pop k).mark k).send k ((s.pop k).name k)) + 1 ≤ pot s := by omega
    refine ⟨⟨hinv, ?_, by omega, rfl, fun j hj => ?_⟩, fun _ => hpd, hne2 _⟩
    · show s.sent + 1 + _ ≤ _; omega
    · show ((s.pop k).mark k).begun.getD j false = true
      rw [begun_mark (s.pop k) k (by show k < s.begun.length; rw [h.l1]; exact hk) j]
      split
      · rfl
      · exact hj
  · rw [if_neg h3]
    have hinv : EInv (s.pop k) := h.pop hk hx (by
      rcases h.live with hl | hl
      · exact .inl hl
      · refine .inr fun q hq hbq => ?_
        have hbk : s.begun.getD k false = true := by
          have : ¬ s.begun.getD k false = false := h3
          simpa using this
        -- the witness of node k itself is greater than x
        have hself : ∃ j, j < s.names.length ∧ ∃ y ∈ (s.pop k).way j, s.name k ≤ y := by
          obtain ⟨j, hj, y, hy, hle⟩ := hl k hk hbk
          by_cases hjk : k = j
          · subst hjk
            rw [hx] at hy
            rcases List.mem_cons.1 hy with rfl | hy
            · omega
            · exact ⟨k, hk, y, by rw [hwp k, if_pos rfl, hx]; exact hy, hle⟩
          · exact ⟨j, hj, y, by rw [hwp j, if_neg hjk]; exact hy, hle⟩
        obtain ⟨j, hj, y, hy, hle⟩ := hl q hq hbq
        by_cases hjk : k = j
        · subst hjk
          rw [hx] at hy
          rcases List.mem_cons.1 hy with rfl | hy
          · obtain ⟨j2, hj2, y2, hy2, hle2⟩ := hself
            exact ⟨j2, hj2, y2, hy2, by omega⟩
          · exact ⟨k, hk, y, by rw [hwp k, if_pos rfl, hx]; exact hy, hle⟩
        · exact ⟨j, hj, y, by rw [hwp j, if_neg hjk]; exact hy, hle⟩)
    refine ⟨⟨hinv, ?_, by omega, rfl, fun _ h => h⟩, fun _ => by omega, hne⟩
    show s.sent + _ ≤ _; omega

end Go.Proofs.YtgpjjbfmckcjgaaDoor
