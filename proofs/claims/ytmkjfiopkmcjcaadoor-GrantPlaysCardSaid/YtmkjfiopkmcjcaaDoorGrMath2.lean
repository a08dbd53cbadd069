/-
  The lock for which one asks all others, plain: what stays true behind each deed.
  Conditions: none beyond those of each lemma.
-/
import Derived.Test.YtmkjfiopkmcjcaaDoorGrMath
namespace Go.Proofs.YtmkjfiopkmcjcaaDoor

theorem bcast_way (s : GNet) (p : Nat) (m : Int) (C : Nat → Bool) (j a b : Nat) : (s.bcast p m C j).ways a b = if a = p ∧ b < j ∧ C b = true then s.ways a b ++ [m] else s.ways a b := rfl

theorem GNet.ask_ok {s : GNet} {p : Int} (h : s.askErr p = 0) : ∃ a : Nat, p = a ∧ a < s.n ∧ s.st a = 0 ∧ s.ck a < 1000 := by
  unfold GNet.askErr at h
  split at h
  · omega
  rename_i h1
  split at h
  · omega
  rename_i h2
  split at h
  · omega
  rename_i h3
  obtain ⟨a, rfl, ha⟩ := (s.is_iff p).1 (by cases hx : s.is p <;> simp_all)
  rw [Int.toNat_natCast] at h2 h3
  exact ⟨a, rfl, ha, by simpa using h2, by omega⟩

theorem GInv.ask0 {s : GNet} (h : GInv s) {p : Nat} (hp : p < s.n) (h0 : s.st p = 0) : GInv (s.ask0 p) := by
  refine GPre.enter (q := p) ?_
  have hout : ∀ b, b < s.n → b ≠ p → req (s.ways p b) = 0 ∧ zer (s.ways b p) = 0 ∧ bI (s.wt b) p = 0 := fun b hb hne => by
    have h1 := h.out p b hp hb (Ne.symm hne) h0
    unfold tot at h1
    have := req_nonneg (s.ways p b)
    have := zer_nonneg (s.ways b p)
    have := bI_nonneg (s.wt b) p
    omega
  have hpos := h.pos p hp
  have hwt : ∀ q, q < s.n → bI (s.wt p) q ≠ 1 := fun q hq hw => by
    have := (h.wait q p hq hp hw).2
    omega
  have hst : ∀ a, a ≠ p → put1 s.st p 1 a = s.st a := fun a hne => put1_ne _ _ hne
  have htm : ∀ a, a ≠ p → put1 s.tm p (s.ck p + 1) a = s.tm a := fun a hne => put1_ne _ _ hne
  have hck : ∀ a, a ≠ p → put1 s.ck p (s.ck p + 1) a = s.ck a := fun a hne => put1_ne _ _ hne
  have hgr : ∀ a, a ≠ p → put1 s.gr p 0 a = s.gr a := fun a hne => put1_ne _ _ hne
  have hway : ∀ a b, b < s.n → ((s.ask1 p).bcast p (s.ck p + 1) (fun b => decide (b ≠ p)) s.n).ways a b = if a = p ∧ b ≠ p then s.ways a b ++ [s.ck p + 1] else s.ways a b := fun a b hb => by
    rw [bcast_way]
    by_cases e : a = p ∧ b ≠ p
    · rw [if_pos e, if_pos ⟨e.1, hb, decide_eq_true e.2⟩]; rfl
    · rw [if_neg e, if_neg (fun hh => e ⟨hh.1, of_decide_eq_true hh.2.2⟩)]; rfl
  have hz : ∀ a b, b < s.n → zer (((s.ask1 p).bcast p (s.ck p + 1) (fun b => decide (b ≠ p)) s.n).ways a b) = zer (s.ways a b) := fun a b hb => by
    rw [hway a b hb]; split
    · rw [zer_app, if_neg (by omega), Int.add_zero]
    · rfl
  have hr : ∀ a b, b < s.n → req (((s.ask1 p).bcast p (s.ck p + 1) (fun b => decide (b ≠ p)) s.n).ways a b) = req (s.ways a b) + (if a = p ∧ b ≠ p then 1 else 0) := fun a b hb => by
    rw [hway a b hb]; split
    · rw [req_app, if_neg (by omega)]
    · omega
  have htot : ∀ a b, a < s.n → b < s.n → tot ((s.ask1 p).bcast p (s.ck p + 1) (fun b => decide (b ≠ p)) s.n) a b = tot s a b + (if a = p ∧ b ≠ p then 1 else 0) := fun a b ha hb => by
    unfold tot
    rw [hr a b hb, hz b a ha]
    show _ + _ + bI (s.wt b) a = _
    omega
  exact {
    hq := hp
    asks := put1_self _ _ _
    n1 := h.n1, n4 := h.n4
    st3 := fun a ha => by
      show put1 s.st p 1 a = 0 ∨ put1 s.st p 1 a = 1 ∨ put1 s.st p 1 a = 2
      by_cases e : a = p
      · subst e; rw [put1_self]; omega
      · rw [hst a e]; exact h.st3 a ha
    selfW := fun a ha => by rw [hway a a ha, if_neg (by omega)]; exact h.selfW a ha
    selfG := fun a ha => by
      show bI (put1 s.gr p 0 a) a = 0
      by_cases e : a = p
      · subst e; rw [put1_self]; exact bI_zero _
      · rw [hgr a e]; exact h.selfG a ha
    selfT := h.selfT
    grB := fun a ha => by
      show put1 s.gr p 0 a < 2 ^ s.n
      by_cases e : a = p
      · subst e; rw [put1_self]; exact Nat.pow_pos (by omega)
      · rw [hgr a e]; exact h.grB a ha
    wtB := h.wtB
    msg := fun a b ha hb m hm => by
      rw [hway a b hb] at hm
      show m = 0 ∨ (m = put1 s.tm p (s.ck p + 1) a ∧ put1 s.st p 1 a = 1)
      by_cases e : a = p
      · subst e
        rw [put1_self, put1_self]
        by_cases eb : b = a
        · subst eb
          rw [if_neg (by omega), h.selfW b hb] at hm; cases hm
        · rw [if_pos ⟨rfl, eb⟩, List.mem_append] at hm
          rcases hm with hm | hm
          · exact .inl (req_zero (hout b hb eb).1 m hm)
          · rw [List.mem_singleton] at hm; exact .inr ⟨hm, rfl⟩
      · rw [if_neg (fun hh => e hh.1)] at hm
        rw [hst a e, htm a e]; exact h.msg a b ha hb m hm
    out := fun a b ha hb hne hs => by
      have hs : put1 s.st p 1 a = 0 := hs
      by_cases e : a = p
      · subst e; rw [put1_self] at hs; omega
      · rw [hst a e] at hs
        rw [htot a b ha hb, if_neg (fun hh => e hh.1), h.out a b ha hb hne hs]; rfl
    one := fun a b ha hb hne hs => by
      have hs : put1 s.st p 1 a ≠ 0 := hs
      rw [htot a b ha hb]
      show tot s a b + _ + bI (put1 s.gr p 0 a) b = 1
      by_cases e : a = p
      · subst e
        rw [put1_self, bI_zero, if_pos ⟨rfl, Ne.symm hne⟩, h.out a b ha hb hne h0]; rfl
      · rw [hst a e] at hs
        rw [hgr a e, if_neg (fun hh => e hh.1)]
        have := h.one a b ha hb hne hs
        omega
    inn := fun a b ha hb hne hs => by
      have hs : put1 s.st p 1 a = 2 := hs
      show bI (put1 s.gr p 0 a) b = 1
      by_cases e : a = p
      · subst e; rw [put1_self] at hs; omega
      · rw [hst a e] at hs
        rw [hgr a e]; exact h.inn a b ha hb hne hs
    ask := fun a ha hne hs => by
      have hs : put1 s.st p 1 a = 1 := hs
      rw [hst a hne] at hs
      obtain ⟨b, hb, hbn, hg⟩ := h.ask a ha hs
      refine ⟨b, hb, hbn, ?_⟩
      show bI (put1 s.gr p 0 a) b = 0
      rw [hgr a hne]; exact hg
    wait := fun a b ha hb hw => by
      have hw : bI (s.wt b) a = 1 := hw
      obtain ⟨h1, h2⟩ := h.wait a b ha hb hw
      have hbp : b ≠ p := fun e => by subst e; exact hwt a ha hw
      have hap : a ≠ p := fun e => by
        subst e
        have := (hout b hb hbp).2.2; omega
      show put1 s.tm p (s.ck p + 1) a ≤ put1 s.ck p (s.ck p + 1) b ∧ (put1 s.st p 1 b = 2 ∨ (put1 s.st p 1 b = 1 ∧ (put1 s.tm p (s.ck p + 1) b < put1 s.tm p (s.ck p + 1) a ∨ (put1 s.tm p (s.ck p + 1) b = put1 s.tm p (s.ck p + 1) a ∧ b < a))))
      rw [htm a hap, htm b hbp, hst b hbp, hck b hbp]
      exact ⟨h1, h2⟩
    gran := fun a b ha hb hne hs hg => by
      have hs : put1 s.st p 1 a ≠ 0 := hs
      have hg : bI (put1 s.gr p 0 a) b = 1 ∨ 0 < zer (((s.ask1 p).bcast p (s.ck p + 1) (fun b => decide (b ≠ p)) s.n).ways b a) := hg
      rw [hz b a ha] at hg
      show put1 s.tm p (s.ck p + 1) a ≤ put1 s.ck p (s.ck p + 1) b ∧ put1 s.st p 1 b ≠ 2 ∧ (put1 s.st p 1 b = 1 → (put1 s.tm p (s.ck p + 1) a < put1 s.tm p (s.ck p + 1) b ∨ (put1 s.tm p (s.ck p + 1) a = put1 s.tm p (s.ck p + 1) b ∧ a < b)))
      by_cases e : a = p
      · subst e
        rw [put1_self, bI_zero] at hg
        have := (hout b hb (Ne.symm hne)).2.1
        omega
      · rw [hst a e] at hs
        rw [hgr a e] at hg
        obtain ⟨h1, h2, h3⟩ := h.gran a b ha hb hne hs hg
        rw [htm a e]
        by_cases eb : b = p
        · subst eb
          rw [put1_self, put1_self, put1_self]
          exact ⟨by omega, by omega, fun _ => .inl (by omega)⟩
        · rw [hst b eb, htm b eb, hck b eb]
          exact ⟨h1, h2, h3⟩
    pos := fun a ha => by
      show (put1 s.st p 1 a ≠ 0 → 1 ≤ put1 s.tm p (s.ck p + 1) a) ∧ 0 ≤ put1 s.tm p (s.ck p + 1) a ∧ put1 s.tm p (s.ck p + 1) a ≤ put1 s.ck p (s.ck p + 1) a
      by_cases e : a = p
      · subst e; rw [put1_self, put1_self, put1_self]; omega
      · rw [hst a e, htm a e, hck a e]; exact h.pos a ha }

theorem GNet.leave_ok {s : GNet} {p : Int} (h : s.leaveErr p = 0) : ∃ a : Nat, p = a ∧ a < s.n ∧ s.st a = 2 := by
  unfold GNet.leaveErr at h
  split at h
  · omega
  rename_i h1
  split at h
  · omega
  rename_i h2
  obtain ⟨a, rfl, ha⟩ := (s.is_iff p).1 (by cases hx : s.is p <;> simp_all)
  rw [Int.toNat_natCast] at h2
  exact ⟨a, rfl, ha, Classical.byContradiction h2⟩

theorem GInv.leave0 {s : GNet} (h : GInv s) {p : Nat} (hp : p < s.n) (h2 : s.st p = 2) : GInv (s.leave0 p) := by
  have hst : ∀ a, a ≠ p → put1 s.st p 0 a = s.st a := fun a hne => put1_ne _ _ hne
  have hwt : ∀ a, a ≠ p → put1 s.wt p 0 a = s.wt a := fun a hne => put1_ne _ _ hne
  have hpp : bitB (s.wt p) p = false := bI_not (h.selfT p hp)
  have hway : ∀ a b, b < s.n → (s.leave0 p).ways a b = if a = p ∧ bitB (s.wt p) b = true then s.ways a b ++ [0] else s.ways a b := fun a b hb => by
    show (if a = p ∧ b < s.n ∧ bitB (s.wt p) b = true then s.ways a b ++ [0] else s.ways a b) = _
    by_cases e : a = p ∧ bitB (s.wt p) b = true
    · rw [if_pos e, if_pos ⟨e.1, hb, e.2⟩]
    · rw [if_neg e, if_neg (fun hh => e ⟨hh.1, hh.2.2⟩)]
  have hr : ∀ a b, b < s.n → req ((s.leave0 p).ways a b) = req (s.ways a b) := fun a b hb => by
    rw [hway a b hb]; split
    · rw [req_app, if_pos rfl, Int.add_zero]
    · rfl
  have hz : ∀ a b, b < s.n → zer ((s.leave0 p).ways a b) = zer (s.ways a b) + (if a = p then bI (s.wt p) b else 0) := fun a b hb => by
    rw [hway a b hb]
    by_cases e : a = p
    · rw [if_pos e]
      by_cases eb : bitB (s.wt p) b = true
      · rw [if_pos ⟨e, eb⟩, zer_app, if_pos rfl]; unfold bI; rw [if_pos eb]
      · rw [if_neg (fun hh => eb hh.2)]; unfold bI; rw [if_neg eb]; omega
    · rw [if_neg (fun hh => e hh.1), if_neg e]; omega
  have htot : ∀ a b, a < s.n → b < s.n → tot (s.leave0 p) a b = tot s a b := fun a b ha hb => by
    unfold tot
    rw [hr a b hb, hz b a ha]
    show _ + _ + bI (put1 s.wt p 0 b) a = _
    by_cases e : b = p
    · subst e; rw [put1_self, bI_zero, if_pos rfl]; omega
    · rw [hwt b e, if_neg e]; omega
  exact {
    n1 := h.n1, n4 := h.n4
    st3 := fun a ha => by
      show put1 s.st p 0 a = 0 ∨ put1 s.st p 0 a = 1 ∨ put1 s.st p 0 a = 2
      by_cases e : a = p
      · subst e; rw [put1_self]; omega
      · rw [hst a e]; exact h.st3 a ha
    selfW := fun a ha => by
      rw [hway a a ha, if_neg]
      · exact h.selfW a ha
      · rintro ⟨rfl, hh⟩; rw [hpp] at hh; cases hh
    selfG := h.selfG
    selfT := fun a ha => by
      show bI (put1 s.wt p 0 a) a = 0
      by_cases e : a = p
      · subst e; rw [put1_self]; exact bI_zero _
      · rw [hwt a e]; exact h.selfT a ha
    grB := h.grB
    wtB := fun a ha => by
      show put1 s.wt p 0 a < 2 ^ s.n
      by_cases e : a = p
      · subst e; rw [put1_self]; exact Nat.pow_pos (by omega)
      · rw [hwt a e]; exact h.wtB a ha
    msg := fun a b ha hb m hm => by
      rw [hway a b hb] at hm
      show m = 0 ∨ (m = s.tm a ∧ put1 s.st p 0 a = 1)
      by_cases e : a = p
      · subst e
        left
        have hm' : m ∈ s.ways a b ∨ m = 0 := by
          split at hm
          · rw [List.mem_append, List.mem_singleton] at hm; exact hm
          · exact .inl hm
        rcases hm' with hm' | hm'
        · rcases h.msg a b ha hb m hm' with h' | h'
          · exact h'
          · omega
        · exact hm'
      · rw [if_neg (fun hh => e hh.1)] at hm
        rw [hst a e]; exact h.msg a b ha hb m hm
    out := fun a b ha hb hne hs => by
      have hs : put1 s.st p 0 a = 0 := hs
      rw [htot a b ha hb]
      by_cases e : a = p
      · subst e
        have h3 := h.one a b ha hb hne (by omega)
        rw [h.inn a b ha hb hne h2] at h3; omega
      · rw [hst a e] at hs; exact h.out a b ha hb hne hs
    one := fun a b ha hb hne hs => by
      have hs : put1 s.st p 0 a ≠ 0 := hs
      rw [htot a b ha hb]
      by_cases e : a = p
      · subst e; rw [put1_self] at hs; omega
      · rw [hst a e] at hs; exact h.one a b ha hb hne hs
    inn := fun a b ha hb hne hs => by
      have hs : put1 s.st p 0 a = 2 := hs
      by_cases e : a = p
      · subst e; rw [put1_self] at hs; omega
      · rw [hst a e] at hs; exact h.inn a b ha hb hne hs
    ask := fun a ha hs => by
      have hs : put1 s.st p 0 a = 1 := hs
      by_cases e : a = p
      · subst e; rw [put1_self] at hs; omega
      · rw [hst a e] at hs; exact h.ask a ha hs
    wait := fun a b ha hb hw => by
      have hw : bI (put1 s.wt p 0 b) a = 1 := hw
      by_cases e : b = p
      · subst e; rw [put1_self, bI_zero] at hw; omega
      · rw [hwt b e] at hw
        obtain ⟨h3, h4⟩ := h.wait a b ha hb hw
        refine ⟨h3, ?_⟩
        show put1 s.st p 0 b = 2 ∨ (put1 s.st p 0 b = 1 ∧ tlt s b a)
        rw [hst b e]; exact h4
    gran := fun a b ha hb hne hs hg => by
      have hs : put1 s.st p 0 a ≠ 0 := hs
      have hg : bI (s.gr a) b = 1 ∨ 0 < zer ((s.leave0 p).ways b a) := hg
      rw [hz b a ha] at hg
      have hap : a ≠ p := fun e => by subst e; rw [put1_self] at hs; omega
      have hs' : s.st a ≠ 0 := by
        have h' : put1 s.st p 0 a ≠ 0 := hs
        rw [hst a hap] at h'; exact h'
      clear hs
      show s.tm a ≤ s.ck b ∧ put1 s.st p 0 b ≠ 2 ∧ (put1 s.st p 0 b = 1 → tlt s a b)
      by_cases e : b = p
      · subst e
        rw [put1_self]
        refine ⟨?_, by omega, fun h' => by omega⟩
        rw [if_pos rfl] at hg
        by_cases hw : bI (s.wt b) a = 1
        · exact (h.wait a b ha hb hw).1
        · have := bI_nonneg (s.wt b) a
          have := bI_le (s.wt b) a
          have hg' : bI (s.gr a) b = 1 ∨ 0 < zer (s.ways b a) := by omega
          exact (h.gran a b ha hb hne hs' hg').1
      · rw [if_neg e, Int.add_zero] at hg
        rw [hst b e]
        exact h.gran a b ha hb hne hs' hg
    pos := fun a ha => by
      obtain ⟨h3, h4, h5⟩ := h.pos a ha
      refine ⟨fun h' => h3 ?_, h4, h5⟩
      have h' : put1 s.st p 0 a ≠ 0 := h'
      by_cases e : a = p
      · subst e; rw [put1_self] at h'; omega
      · rw [hst a e] at h'; exact h' }

theorem GNet.step_ok {s : GNet} {p q : Int} (h : s.stepErr p q = 0) : ∃ a b : Nat, p = a ∧ q = b ∧ a < s.n ∧ b < s.n ∧ ∃ m l, s.ways a b = m :: l := by
  unfold GNet.stepErr at h
  split at h
  · omega
  rename_i h1
  split at h
  · omega
  rename_i h2
  obtain ⟨a, rfl, ha⟩ := (s.is_iff p).1 (by cases hx : s.is p <;> simp_all)
  obtain ⟨b, rfl, hb⟩ := (s.is_iff q).1 (by cases hx : s.is q <;> simp_all)
  rw [Int.toNat_natCast, Int.toNat_natCast] at h2
  cases hl : s.ways a b with
  | nil => exact absurd hl h2
  | cons m l => exact ⟨a, b, rfl, rfl, ha, hb, m, l, hl⟩

theorem or_lt {x k n : Nat} (hx : x < 2 ^ n) (hk : k < n) : x ||| 2 ^ k < 2 ^ n := Nat.or_lt_two_pow hx (Nat.pow_lt_pow_right (by omega) hk)

theorem GInv.hear {s : GNet} (h : GInv s) {p q : Nat} {m : Int} {l : List Int} (hp : p < s.n) (hq : q < s.n) (hl : s.ways p q = m :: l) : GInv ((s.pop p q).hear p q m) := by
  have h16 := h.sub
  have h4 := h.n4
  have hne : p ≠ q := fun e => by subst e; rw [h.selfW p hp] at hl; cases hl
  have hway : ∀ a b, (s.pop p q).ways a b = if a = p ∧ b = q then l else s.ways a b := fun a b => by
    show put2 s.ways p q (s.ways p q).tail a b = _
    unfold put2; rw [hl, List.tail_cons]
  have hgq : bI (s.gr q) p + bI (s.wt p) q ≤ 2 := by have := bI_le (s.gr q) p; have := bI_le (s.wt p) q; omega
  by_cases hm : m = 0
  · subst hm
    have e : (s.pop p q).hear p q 0 = ({ s.pop p q with gr := put1 s.gr q (s.gr q ||| 2 ^ p) } : GNet).enter q := by unfold GNet.hear; rw [if_pos rfl]; rfl
    rw [e]
    refine GPre.enter (q := q) ?_
    have hzpos : 1 ≤ zer (s.ways p q) := by rw [hl, zer_cons, if_pos rfl]; have := zer_nonneg l; omega
    have hst0 : s.st q ≠ 0 := fun h0 => by
      have := h.out q p hq hp (Ne.symm hne) h0
      unfold tot at this
      have := req_nonneg (s.ways q p)
      have := bI_nonneg (s.wt p) q
      omega
    have hone := h.one q p hq hp (Ne.symm hne) hst0
    have hg0 : bI (s.gr q) p = 0 := by
      unfold tot at hone
      have := req_nonneg (s.ways q p)
      have := bI_nonneg (s.wt p) q
      have := bI_nonneg (s.gr q) p
      omega
    have hst1 : s.st q = 1 := by
      rcases h.st3 q hq with h' | h' | h'
      · exact absurd h' hst0
      · exact h'
      · have := h.inn q p hq hp (Ne.symm hne) h'; omega
    have hgr : ∀ a, a ≠ q → put1 s.gr q (s.gr q ||| 2 ^ p) a = s.gr a := fun a ha => put1_ne _ _ ha
    have hgb : ∀ b, b < s.n → bI (s.gr q ||| 2 ^ p) b = if b = p then 1 else bI (s.gr q) b := fun b hb => bI_or (by have := h.grB q hq; omega) (by omega) (by omega)
    have hr : ∀ a b, req ((s.pop p q).ways a b) = req (s.ways a b) := fun a b => by
      rw [hway a b]; split
      · rename_i e; obtain ⟨rfl, rfl⟩ := e; rw [hl, req_cons, if_pos rfl, Int.add_zero]
      · rfl
    have hz : ∀ a b, zer ((s.pop p q).ways a b) = zer (s.ways a b) - (if a = p ∧ b = q then 1 else 0) := fun a b => by
      rw [hway a b]; split
      · rename_i e; obtain ⟨rfl, rfl⟩ := e; rw [hl, zer_cons, if_pos rfl]; omega
      · omega
    have htot : ∀ a b, tot (s.pop p q) a b = tot s a b - (if b = p ∧ a = q then 1 else 0) := fun a b => by
      unfold tot; rw [hr, hz]
      show _ + _ + bI (s.wt b) a = _
      omega
    exact {
      hq := hq, asks := hst1, n1 := h.n1, n4 := h.n4, st3 := h.st3
      selfW := fun a ha => by
        show (s.pop p q).ways a a = []
        rw [hway, if_neg (by omega)]; exact h.selfW a ha
      selfG := fun a ha => by
        show bI (put1 s.gr q (s.gr q ||| 2 ^ p) a) a = 0
        by_cases e : a = q
        · subst e; rw [put1_self, hgb a ha, if_neg (Ne.symm hne)]; exact h.selfG a ha
        · rw [hgr a e]; exact h.selfG a ha
      selfT := h.selfT
      grB := fun a ha => by
        show put1 s.gr q (s.gr q ||| 2 ^ p) a < 2 ^ s.n
        by_cases e : a = q
        · subst e; rw [put1_self]; exact or_lt (h.grB a ha) hp
        · rw [hgr a e]; exact h.grB a ha
      wtB := h.wtB
      msg := fun a b ha hb x hx => by
        refine h.msg a b ha hb x ?_
        have hx' : x ∈ (if a = p ∧ b = q then l else s.ways a b) := by rw [← hway a b]; exact hx
        clear hx
        split at hx'
        · rename_i e; obtain ⟨rfl, rfl⟩ := e; rw [hl]; exact List.mem_cons_of_mem _ hx'
        · exact hx'
      out := fun a b ha hb hab hs => by
        show tot (s.pop p q) a b = 0
        rw [htot, if_neg, h.out a b ha hb hab hs]; rfl
        rintro ⟨rfl, rfl⟩; exact hst0 hs
      one := fun a b ha hb hab hs => by
        show tot (s.pop p q) a b + bI (put1 s.gr q (s.gr q ||| 2 ^ p) a) b = 1
        rw [htot]
        have h1 := h.one a b ha hb hab hs
        by_cases e : a = q
        · subst e
          rw [put1_self, hgb b hb]
          by_cases eb : b = p
          · subst eb; rw [if_pos ⟨rfl, rfl⟩, if_pos rfl]; omega
          · rw [if_neg (fun hh => eb hh.1), if_neg eb]; omega
        · rw [hgr a e, if_neg (fun hh => e hh.2)]; omega
      inn := fun a b ha hb hab hs => by
        show bI (put1 s.gr q (s.gr q ||| 2 ^ p) a) b = 1
        have hs : s.st a = 2 := hs
        by_cases e : a = q
        · subst e; omega
        · rw [hgr a e]; exact h.inn a b ha hb hab hs
      ask := fun a ha e hs => by
        obtain ⟨b, hb, hbn, hg⟩ := h.ask a ha hs
        refine ⟨b, hb, hbn, ?_⟩
        show bI (put1 s.gr q (s.gr q ||| 2 ^ p) a) b = 0
        rw [hgr a e]; exact hg
      wait := h.wait
      gran := fun a b ha hb hab hs hg => by
        have hg : bI (put1 s.gr q (s.gr q ||| 2 ^ p) a) b = 1 ∨ 0 < zer ((s.pop p q).ways b a) := hg
        refine h.gran a b ha hb hab hs ?_
        rw [hz] at hg
        by_cases e : a = q
        · subst e
          rw [put1_self, hgb b hb] at hg
          by_cases eb : b = p
          · subst eb; right; omega
          · rw [if_neg eb, if_neg (fun hh => eb hh.1)] at hg; omega
        · rw [hgr a e, if_neg (fun hh => e hh.2)] at hg; omega
      pos := h.pos }
  · obtain ⟨hmt, hst⟩ : m = s.tm p ∧ s.st p = 1 := by
      rcases h.msg p q hp hq m (by rw [hl]; simp) with h' | h'
      · exact absurd h' hm
      · exact h'
    have hposp := h.pos p hp
    have hone := h.one p q hp hq hne (by omega)
    have hrq : 1 ≤ req (s.ways p q) := by rw [hl, req_cons, if_neg hm]; have := req_nonneg l; omega
    have hw0 : bI (s.wt q) p = 0 ∧ zer (s.ways q p) = 0 ∧ bI (s.gr p) q = 0 := by
      unfold tot at hone
      have := zer_nonneg (s.ways q p)
      have := bI_nonneg (s.wt q) p
      have := bI_nonneg (s.gr p) q
      omega
    have hr : ∀ a b, req ((s.pop p q).ways a b) = req (s.ways a b) - (if a = p ∧ b = q then 1 else 0) := fun a b => by
      rw [hway a b]; split
      · rename_i e; obtain ⟨rfl, rfl⟩ := e; rw [hl, req_cons, if_neg hm]; omega
      · omega
    have hz : ∀ a b, zer ((s.pop p q).ways a b) = zer (s.ways a b) := fun a b => by
      rw [hway a b]; split
      · rename_i e; obtain ⟨rfl, rfl⟩ := e; rw [hl, zer_cons, if_neg hm, Int.add_zero]
      · rfl
    have hmem : ∀ a b x, x ∈ (s.pop p q).ways a b → x ∈ s.ways a b := fun a b x hx => by
      rw [hway a b] at hx
      split at hx
      · rename_i e; obtain ⟨rfl, rfl⟩ := e; rw [hl]; exact List.mem_cons_of_mem _ hx
      · exact hx
    have hck : ∀ a, a ≠ q → put1 s.ck q (max (s.ck q) m) a = s.ck a := fun a ha => put1_ne _ _ ha
    have hckq : ∀ a, s.ck a ≤ put1 s.ck q (max (s.ck q) m) a := fun a => by
      by_cases e : a = q
      · subst e; rw [put1_self]; omega
      · rw [hck a e]; omega
    have hpos : ∀ a, a < s.n → (s.st a ≠ 0 → 1 ≤ s.tm a) ∧ 0 ≤ s.tm a ∧ s.tm a ≤ put1 s.ck q (max (s.ck q) m) a := fun a ha => by
      obtain ⟨h1, h2, h3⟩ := h.pos a ha
      exact ⟨h1, h2, Int.le_trans h3 (hckq a)⟩
    by_cases hcase : s.st q = 2 ∨ (s.st q = 1 ∧ s.mine q p m)
    · have e : (s.pop p q).hear p q m = { s.pop p q with ck := put1 s.ck q (max (s.ck q) m), wt := put1 s.wt q (s.wt q ||| 2 ^ p) } := by
        unfold GNet.hear; rw [if_neg hm]
        exact if_pos hcase
      rw [e]
      have hwt : ∀ a, a ≠ q → put1 s.wt q (s.wt q ||| 2 ^ p) a = s.wt a := fun a ha => put1_ne _ _ ha
      have hwb : ∀ b, b < s.n → bI (s.wt q ||| 2 ^ p) b = if b = p then 1 else bI (s.wt q) b := fun b hb => bI_or (by have := h.wtB q hq; omega) (by omega) (by omega)
      have htot : ∀ a b, a < s.n → tot { s.pop p q with ck := put1 s.ck q (max (s.ck q) m), wt := put1 s.wt q (s.wt q ||| 2 ^ p) } a b = tot s a b := fun a b ha => by
        unfold tot
        show req ((s.pop p q).ways a b) + zer ((s.pop p q).ways b a) + bI (put1 s.wt q (s.wt q ||| 2 ^ p) b) a = _
        rw [hr, hz]
        by_cases eb : b = q
        · subst eb
          rw [put1_self, hwb a ha]
          by_cases ea : a = p
          · subst ea; rw [if_pos ⟨rfl, rfl⟩, if_pos rfl, hw0.1]; omega
          · rw [if_neg (fun hh => ea hh.1), if_neg ea]; omega
        · rw [hwt b eb, if_neg (fun hh => eb hh.2)]; omega
      exact {
        n1 := h.n1, n4 := h.n4, st3 := h.st3
        selfW := fun a ha => by
          show (s.pop p q).ways a a = []
          rw [hway, if_neg (by omega)]; exact h.selfW a ha
        selfG := h.selfG
        selfT := fun a ha => by
          show bI (put1 s.wt q (s.wt q ||| 2 ^ p) a) a = 0
          by_cases e : a = q
          · subst e; rw [put1_self, hwb a ha, if_neg (Ne.symm hne)]; exact h.selfT a ha
          · rw [hwt a e]; exact h.selfT a ha
        grB := h.grB
        wtB := fun a ha => by
          show put1 s.wt q (s.wt q ||| 2 ^ p) a < 2 ^ s.n
          by_cases e : a = q
          · subst e; rw [put1_self]; exact or_lt (h.wtB a ha) hp
          · rw [hwt a e]; exact h.wtB a ha
        msg := fun a b ha hb x hx => h.msg a b ha hb x (hmem a b x hx)
        out := fun a b ha hb hab hs => by rw [htot a b ha]; exact h.out a b ha hb hab hs
        one := fun a b ha hb hab hs => by rw [htot a b ha]; exact h.one a b ha hb hab hs
        inn := h.inn, ask := h.ask
        wait := fun a b ha hb hw => by
          have hw : bI (put1 s.wt q (s.wt q ||| 2 ^ p) b) a = 1 := hw
          show s.tm a ≤ put1 s.ck q (max (s.ck q) m) b ∧ (s.st b = 2 ∨ (s.st b = 1 ∧ tlt s b a))
          by_cases eb : b = q
          · subst eb
            rw [put1_self, hwb a ha] at hw
            by_cases ea : a = p
            · subst ea
              refine ⟨by rw [put1_self]; omega, ?_⟩
              rcases hcase with h' | ⟨h1, h2⟩
              · exact .inl h'
              · refine .inr ⟨h1, ?_⟩
                unfold GNet.mine at h2
                unfold tlt
                omega
            · rw [if_neg ea] at hw
              obtain ⟨h1, h2⟩ := h.wait a b ha hb hw
              exact ⟨Int.le_trans h1 (hckq b), h2⟩
          · rw [hwt b eb] at hw
            obtain ⟨h1, h2⟩ := h.wait a b ha hb hw
            exact ⟨Int.le_trans h1 (hckq b), h2⟩
        gran := fun a b ha hb hab hs hg => by
          have hg : bI (s.gr a) b = 1 ∨ 0 < zer ((s.pop p q).ways b a) := hg
          rw [hz] at hg
          obtain ⟨h1, h2, h3⟩ := h.gran a b ha hb hab hs hg
          exact ⟨Int.le_trans h1 (hckq b), h2, h3⟩
        pos := hpos }
    · have e : (s.pop p q).hear p q m = ({ s.pop p q with ck := put1 s.ck q (max (s.ck q) m) } : GNet).push q p 0 := by
        unfold GNet.hear; rw [if_neg hm]
        exact if_neg hcase
      rw [e]
      have hway2 : ∀ a b, (({ s.pop p q with ck := put1 s.ck q (max (s.ck q) m) } : GNet).push q p 0).ways a b = if a = q ∧ b = p then s.ways q p ++ [0] else (s.pop p q).ways a b := fun a b => by
        have e0 : (s.pop p q).ways q p = s.ways q p := by rw [hway, if_neg (by omega)]
        show put2 (s.pop p q).ways q p ((s.pop p q).ways q p ++ [0]) a b = _
        rw [e0]; rfl
      have hr2 : ∀ a b, req ((({ s.pop p q with ck := put1 s.ck q (max (s.ck q) m) } : GNet).push q p 0).ways a b) = req (s.ways a b) - (if a = p ∧ b = q then 1 else 0) := fun a b => by
        rw [hway2]; split
        · rename_i e; obtain ⟨rfl, rfl⟩ := e; rw [req_app, if_pos rfl, if_neg (by omega)]; omega
        · exact hr a b
      have hz2 : ∀ a b, zer ((({ s.pop p q with ck := put1 s.ck q (max (s.ck q) m) } : GNet).push q p 0).ways a b) = zer (s.ways a b) + (if a = q ∧ b = p then 1 else 0) := fun a b => by
        rw [hway2]; split
        · rename_i e; obtain ⟨rfl, rfl⟩ := e; rw [zer_app, if_pos rfl]
        · rw [hz]; omega
      have htot : ∀ a b, tot (({ s.pop p q with ck := put1 s.ck q (max (s.ck q) m) } : GNet).push q p 0) a b = tot s a b := fun a b => by
        unfold tot
        rw [hr2, hz2]
        show _ + _ + bI (s.wt b) a = _
        by_cases e : a = p ∧ b = q
        · rw [if_pos e, if_pos ⟨e.2, e.1⟩]; omega
        · rw [if_neg e, if_neg (fun hh => e ⟨hh.2, hh.1⟩)]; omega
      exact {
        n1 := h.n1, n4 := h.n4, st3 := h.st3
        selfW := fun a ha => by
          rw [hway2, if_neg (by omega), hway, if_neg (by omega)]; exact h.selfW a ha
        selfG := h.selfG, selfT := h.selfT, grB := h.grB, wtB := h.wtB
        msg := fun a b ha hb x hx => by
          rw [hway2] at hx
          split at hx
          · rename_i e; obtain ⟨rfl, rfl⟩ := e
            rw [List.mem_append, List.mem_singleton] at hx
            rcases hx with hx | hx
            · exact h.msg a b ha hb x hx
            · exact .inl hx
          · exact h.msg a b ha hb x (hmem a b x hx)
        out := fun a b ha hb hab hs => by rw [htot a b]; exact h.out a b ha hb hab hs
        one := fun a b ha hb hab hs => by rw [htot a b]; exact h.one a b ha hb hab hs
        inn := h.inn, ask := h.ask
        wait := fun a b ha hb hw => by
          obtain ⟨h1, h2⟩ := h.wait a b ha hb hw
          exact ⟨Int.le_trans h1 (hckq b), h2⟩
        gran := fun a b ha hb hab hs hg => by
          have hg : bI (s.gr a) b = 1 ∨ 0 < zer ((({ s.pop p q with ck := put1 s.ck q (max (s.ck q) m) } : GNet).push q p 0).ways b a) := hg
          rw [hz2] at hg
          show s.tm a ≤ put1 s.ck q (max (s.ck q) m) b ∧ s.st b ≠ 2 ∧ (s.st b = 1 → tlt s a b)
          by_cases e : b = q ∧ a = p
          · obtain ⟨rfl, rfl⟩ := e
            refine ⟨by rw [put1_self]; omega, fun h' => hcase (.inl h'), fun h' => ?_⟩
            have : ¬ s.mine b a m := fun hh => hcase (.inr ⟨h', hh⟩)
            unfold GNet.mine at this
            unfold tlt
            omega
          · rw [if_neg e, Int.add_zero] at hg
            obtain ⟨h1, h2, h3⟩ := h.gran a b ha hb hab hs hg
            exact ⟨Int.le_trans h1 (hckq b), h2, h3⟩
        pos := hpos }

end Go.Proofs.YtmkjfiopkmcjcaaDoor
