/-
  The net of work and thanks, plain: what stays true behind each deed, and how much is still to come.
  Conditions: none beyond those of each lemma.
-/
import Derived.Test.YtbckjmbhipofaaaDoorCaMath
namespace Go.Proofs.YtbckjmbhipofaaaDoor

/-- What stays true while node q has not looked yet whether it may rest. -/
structure CPre (q : Nat) (s : CNet) : Prop where
  hq : q < s.n
  n1 : 1 ≤ s.n
  n5 : s.n ≤ 5
  par : ∀ p, p < s.n → -1 ≤ s.parent p ∧ s.parent p < s.n
  par0 : s.parent 0 = 0
  msg : ∀ p q, ∀ m ∈ s.ways p q, m = 1 ∨ m = 2
  owe : ∀ p, p < s.n → s.owed p = dues s p
  eng : ∀ p, p < s.n → p ≠ 0 → p ≠ q → (0 ≤ s.parent p ↔ (s.works p = true ∨ 0 < s.owed p))
  engq : q ≠ 0 → (s.works q = true ∨ 0 < s.owed q) → 0 ≤ s.parent q
  cal : q ≠ 0 → (s.calm = true ↔ (s.works 0 = false ∧ s.owed 0 ≤ 0))
  calq : s.calm = true → (s.works 0 = false ∧ s.owed 0 ≤ 0)
  rank : ∃ r : Nat → Nat, ∀ q, q < s.n → q ≠ 0 → 0 ≤ s.parent q → (s.parent q = 0 ∨ 0 ≤ s.parent (s.parent q).toNat) ∧ r (s.parent q).toNat < r q
  sent0 : 0 ≤ s.sent
  sent20 : s.sent ≤ 20

theorem CPre.same {q : Nat} {s : CNet} (h : CPre q s) (hE : q ≠ 0 → (0 ≤ s.parent q ↔ (s.works q = true ∨ 0 < s.owed q))) (hC : s.calm = true ↔ (s.works 0 = false ∧ s.owed 0 ≤ 0)) : CInv s where
  n1 := h.n1
  n5 := h.n5
  par := h.par
  par0 := h.par0
  msg := h.msg
  owe := h.owe
  eng := fun p hp h0 => by
    by_cases e : p = q
    · subst e; exact hE h0
    · exact h.eng p hp h0 e
  cal := hC
  rank := h.rank
  sent0 := h.sent0
  sent20 := h.sent20

theorem msg_push {s : CNet} (h : ∀ p q, ∀ m ∈ s.ways p q, m = 1 ∨ m = 2) (p q : Nat) {x : Int} (hx : x = 1 ∨ x = 2) : ∀ a b, ∀ m ∈ (s.push p q x).ways a b, m = 1 ∨ m = 2 := by
  intro a b m hm
  by_cases e : a = p ∧ b = q
  · obtain ⟨rfl, rfl⟩ := e
    have hm : m ∈ put2 s.ways a b (s.ways a b ++ [x]) a b := hm
    rw [put2_self, List.mem_append] at hm
    rcases hm with hm | hm
    · exact h _ _ m hm
    · rw [List.mem_singleton] at hm; subst hm; exact hx
  · have hm : m ∈ put2 s.ways p q (s.ways p q ++ [x]) a b := hm
    rw [put2_ne _ _ (by omega)] at hm
    exact h _ _ m hm

theorem msg_pop {s : CNet} (h : ∀ p q, ∀ m ∈ s.ways p q, m = 1 ∨ m = 2) (p q : Nat) : ∀ a b, ∀ m ∈ (s.pop p q).ways a b, m = 1 ∨ m = 2 := by
  intro a b m hm
  by_cases e : a = p ∧ b = q
  · obtain ⟨rfl, rfl⟩ := e
    have hm : m ∈ put2 s.ways a b (s.ways a b).tail a b := hm
    rw [put2_self] at hm
    exact h _ _ m (List.mem_of_mem_tail hm)
  · have hm : m ∈ put2 s.ways p q (s.ways p q).tail a b := hm
    rw [put2_ne _ _ (by omega)] at hm
    exact h _ _ m hm

theorem CPre.child {q : Nat} {s : CNet} (h : CPre q s) {p c : Nat} (hp : p < s.n) (hc : c < s.n) (h0 : c ≠ 0) (he : s.parent c = p) : 0 < s.owed p := by
  have h1 := dues_child s (p := p) hc
  rw [ch_one s h0 he, ← h.owe p hp] at h1; omega

theorem CPre.rest {q : Nat} {s : CNet} (h : CPre q s) : CInv (s.rest q) := by
  unfold CNet.rest
  by_cases h1 : s.works q = true
  · rw [if_pos h1]
    refine h.same (fun h0 => ⟨fun _ => .inl h1, h.engq h0⟩) ⟨h.calq, fun ⟨ha, hb⟩ => ?_⟩
    by_cases e : q = 0
    · subst e; rw [ha] at h1; cases h1
    · exact (h.cal e).2 ⟨ha, hb⟩
  rw [if_neg h1]
  by_cases h2 : 0 < s.owed q
  · rw [if_pos h2]
    refine h.same (fun h0 => ⟨fun _ => .inr h2, h.engq h0⟩) ⟨h.calq, fun ⟨ha, hb⟩ => ?_⟩
    by_cases e : q = 0
    · subst e; omega
    · exact (h.cal e).2 ⟨ha, hb⟩
  rw [if_neg h2]
  by_cases h3 : s.parent q < 0
  · rw [if_pos h3]
    have e : q ≠ 0 := fun e => by subst e; rw [h.par0] at h3; omega
    exact h.same (fun h0 => ⟨fun hx => by omega, fun hx => h.engq h0 hx⟩) (h.cal e)
  rw [if_neg h3]
  have h1' : s.works q = false := by simpa using h1
  by_cases h4 : q = 0
  · rw [if_pos h4]
    subst h4
    exact {
      n1 := h.n1, n5 := h.n5, par := h.par, par0 := h.par0, msg := h.msg
      owe := h.owe
      eng := fun p hp h0 => h.eng p hp h0 h0
      cal := ⟨fun _ => ⟨h1', by show s.owed 0 ≤ 0; omega⟩, fun _ => rfl⟩
      rank := h.rank, sent0 := h.sent0, sent20 := h.sent20 }
  rw [if_neg h4]
  have hpq := h.par q h.hq
  obtain ⟨u, hu⟩ : ∃ u : Nat, s.parent q = u := ⟨(s.parent q).toNat, by omega⟩
  have hun : u < s.n := by omega
  rw [hu, Int.toNat_natCast]
  have hd : ∀ x, dues { s.push q u 2 with parent := put1 s.parent q (-1) } x = dues s x := fun x => by
    have e1 := dues_parent (s.push q u 2) (q := q) h.hq h4 (-1) x
    have e2 := dues_push2 s h.hq hun x
    have e3 : (if (s.push q u 2).parent q = (x : Int) then (1 : Int) else 0) = one u x := by
      show (if s.parent q = (x : Int) then (1 : Int) else 0) = _
      rw [hu]; unfold one
      by_cases e : u = x
      · subst e; simp
      · rw [if_neg e, if_neg (by omega)]
    rw [e3, if_neg (by omega : ¬ (-1 : Int) = x)] at e1
    refine Eq.trans e1 ?_
    omega
  exact {
    n1 := h.n1, n5 := h.n5
    par := fun p hp => by
      show -1 ≤ put1 s.parent q (-1) p ∧ put1 s.parent q (-1) p < (s.n : Int)
      by_cases e : p = q
      · subst e; rw [put1_self]; omega
      · rw [put1_ne _ _ e]; exact h.par p hp
    par0 := by show put1 s.parent q (-1) 0 = 0; rw [put1_ne _ _ (Ne.symm h4)]; exact h.par0
    msg := msg_push h.msg q u (.inr rfl)
    owe := fun p hp => by rw [hd p]; exact h.owe p hp
    eng := fun p hp h0 => by
      show 0 ≤ put1 s.parent q (-1) p ↔ (s.works p = true ∨ 0 < s.owed p)
      by_cases e : p = q
      · subst e; rw [put1_self]
        exact ⟨fun hx => absurd hx (by omega), fun hx => by rcases hx with hx | hx; exact absurd hx h1; exact absurd hx h2⟩
      · rw [put1_ne _ _ e]; exact h.eng p hp h0 e
    cal := h.cal h4
    rank := by
      obtain ⟨r, hr⟩ := h.rank
      refine ⟨r, fun p hp h0 he => ?_⟩
      have he : 0 ≤ put1 s.parent q (-1) p := he
      show (put1 s.parent q (-1) p = 0 ∨ 0 ≤ put1 s.parent q (-1) (put1 s.parent q (-1) p).toNat) ∧ r (put1 s.parent q (-1) p).toNat < r p
      by_cases e : p = q
      · subst e; rw [put1_self] at he; omega
      · rw [put1_ne _ _ e] at he ⊢
        obtain ⟨ha, hb⟩ := hr p hp h0 he
        refine ⟨?_, hb⟩
        rcases ha with ha | ha
        · exact .inl ha
        · right
          have hne : (s.parent p).toNat ≠ q := fun e' => h2 (h.child h.hq hp h0 (by omega))
          rw [put1_ne _ _ hne]; exact ha
    sent0 := h.sent0, sent20 := h.sent20 }

theorem CNet.is_iff (s : CNet) (p : Int) : s.is p = true ↔ ∃ k : Nat, p = k ∧ k < s.n := by
  unfold CNet.is
  rw [Bool.and_eq_true, decide_eq_true_eq, decide_eq_true_eq]
  constructor
  · rintro ⟨h1, h2⟩; exact ⟨p.toNat, by omega, by omega⟩
  · rintro ⟨k, rfl, hk⟩; omega

theorem CNet.give_ok {s : CNet} {p q : Int} (h : s.giveErr p q = 0) : ∃ a b : Nat, p = a ∧ q = b ∧ a < s.n ∧ b < s.n ∧ a ≠ b ∧ s.works a = true ∧ s.sent ≠ 20 := by
  unfold CNet.giveErr at h
  split at h
  · omega
  rename_i h1
  split at h
  · omega
  rename_i h2
  split at h
  · omega
  rename_i h3
  split at h
  · omega
  rename_i h4
  obtain ⟨a, rfl, ha⟩ := (s.is_iff p).1 (by cases hx : s.is p <;> simp_all)
  obtain ⟨b, rfl, hb⟩ := (s.is_iff q).1 (by cases hx : s.is q <;> simp_all)
  exact ⟨a, b, rfl, rfl, ha, hb, fun e => h2 (by rw [e]), by simpa using h3, h4⟩

theorem CInv.give0 {s : CNet} (h : CInv s) {a b : Nat} (ha : a < s.n) (hb : b < s.n) (hw : s.works a = true) (hs : s.sent ≠ 20) : CInv (s.give0 a b) := by
  have hd : ∀ x, dues (s.give0 a b) x = dues s x + one a x := fun x => dues_push1 { s with sent := s.sent + 1, owed := put1 s.owed a (s.owed a + 1) } ha hb x
  have hp1 : ∀ p, p ≠ a → put1 s.owed a (s.owed a + 1) p = s.owed p := fun p hp => put1_ne _ _ hp
  exact {
    n1 := h.n1, n5 := h.n5, par := h.par, par0 := h.par0
    msg := msg_push (s := { s with sent := s.sent + 1, owed := put1 s.owed a (s.owed a + 1) }) h.msg a b (.inl rfl)
    owe := fun p hp => by
      rw [hd p]
      show put1 s.owed a (s.owed a + 1) p = _
      by_cases e : p = a
      · subst e; rw [put1_self, h.owe p hp]; simp [one]
      · rw [hp1 p e, h.owe p hp]; unfold one; rw [if_neg (Ne.symm e)]; omega
    eng := fun p hp h0 => by
      show 0 ≤ s.parent p ↔ (s.works p = true ∨ 0 < put1 s.owed a (s.owed a + 1) p)
      have h1 := h.eng p hp h0
      by_cases e : p = a
      · subst e; exact ⟨fun _ => .inl hw, fun _ => h1.2 (.inl hw)⟩
      · rw [hp1 p e]; exact h1
    cal := by
      show s.calm = true ↔ (s.works 0 = false ∧ put1 s.owed a (s.owed a + 1) 0 ≤ 0)
      have h1 := h.cal
      by_cases e : 0 = a
      · subst e
        refine ⟨fun hx => ?_, fun hx => ?_⟩
        · rw [(h1.1 hx).1] at hw; cases hw
        · rw [hx.1] at hw; cases hw
      · rw [hp1 0 e]; exact h1
    rank := h.rank
    sent0 := by show 0 ≤ s.sent + 1; have := h.sent0; omega
    sent20 := by show s.sent + 1 ≤ 20; have := h.sent20; omega }

theorem CInv.stop0 {s : CNet} (h : CInv s) {a : Nat} (ha : a < s.n) (hw : s.works a = true) : CInv (s.stop0 a) := by
  refine CPre.rest (q := a) ?_
  exact {
    hq := ha, n1 := h.n1, n5 := h.n5, par := h.par, par0 := h.par0, msg := h.msg
    owe := h.owe
    eng := fun p hp h0 hne => by
      show 0 ≤ s.parent p ↔ (put1 s.works a false p = true ∨ 0 < s.owed p)
      rw [put1_ne _ _ hne]; exact h.eng p hp h0
    engq := fun h0 _ => (h.eng a ha h0).2 (.inl hw)
    cal := fun h0 => by
      show s.calm = true ↔ (put1 s.works a false 0 = false ∧ s.owed 0 ≤ 0)
      rw [put1_ne _ _ (Ne.symm h0)]; exact h.cal
    calq := fun hx => by
      obtain ⟨h1, h2⟩ := h.cal.1 hx
      refine ⟨?_, h2⟩
      show put1 s.works a false 0 = false
      by_cases e : 0 = a
      · subst e; rw [put1_self]
      · rw [put1_ne _ _ e]; exact h1
    rank := h.rank, sent0 := h.sent0, sent20 := h.sent20 }

theorem CInv.hear {s : CNet} (h : CInv s) {p q : Nat} {m : Int} {l : List Int} (hp : p < s.n) (hq : q < s.n) (hl : s.ways p q = m :: l) : CInv ((s.pop p q).hear p q m) := by
  have hd := dues_pop s hp hq hl
  have hmsg := msg_pop h.msg p q
  have hw1 := dues_way1 s (p := p) hq
  have hw2 := dues_way2 s (p := q) hp
  rw [hl, cnt_cons] at hw1 hw2
  rw [← h.owe p hp] at hw1
  rw [← h.owe q hq] at hw2
  have hn1 := cnt_nonneg 1 l
  have hn2 := cnt_nonneg 2 l
  have hcalm : s.calm = false := by
    cases hc : s.calm with
    | false => rfl
    | true => have := (h.calmed hc).2 p q hp hq; rw [hl] at this; cases this
  unfold CNet.hear
  by_cases hm : m = 2
  · subst hm
    rw [if_pos rfl]
    refine CPre.rest (q := q) ?_
    simp only [if_true] at hw2 hd
    exact {
      hq := hq, n1 := h.n1, n5 := h.n5, par := h.par, par0 := h.par0, msg := hmsg
      owe := fun x hx => by
        show put1 s.owed q (s.owed q - 1) x = dues (s.pop p q) x
        rw [hd x, if_neg (by decide)]
        by_cases e : x = q
        · subst e; rw [put1_self, h.owe x hx]; simp [one]
        · rw [put1_ne _ _ e, h.owe x hx]; unfold one; rw [if_neg (Ne.symm e)]; omega
      eng := fun x hx h0 hne => by
        show 0 ≤ s.parent x ↔ (s.works x = true ∨ 0 < put1 s.owed q (s.owed q - 1) x)
        rw [put1_ne _ _ hne]; exact h.eng x hx h0
      engq := fun h0 hx => (h.eng q hq h0).2 (.inr (by omega))
      cal := fun h0 => by
        show s.calm = true ↔ (s.works 0 = false ∧ put1 s.owed q (s.owed q - 1) 0 ≤ 0)
        rw [put1_ne _ _ (Ne.symm h0)]; exact h.cal
      calq := fun hx => by
        have hx : s.calm = true := hx
        rw [hcalm] at hx; cases hx
      rank := h.rank, sent0 := h.sent0, sent20 := h.sent20 }
  · have hm1 : m = 1 := by
      rcases h.msg p q m (by rw [hl]; simp) with e | e
      · exact e
      · exact absurd e hm
    subst hm1
    rw [if_neg hm]
    simp only [if_true, if_neg hm] at hw1 hd
    show CInv (if s.parent q < 0 then _ else _)
    by_cases hpar : s.parent q < 0
    · rw [if_pos hpar]
      have hq0 : q ≠ 0 := fun e => by subst e; rw [h.par0] at hpar; omega
      have heq := h.eng q hq hq0
      have hqo : ¬ 0 < s.owed q := fun hx => by have := heq.2 (.inr hx); omega
      have hpe : p ≠ 0 → 0 ≤ s.parent p := fun h0 => (h.eng p hp h0).2 (.inr (by omega))
      have hne : p ≠ q := fun e => by subst e; omega
      have hd2 : ∀ x, dues { (s.pop p q) with parent := put1 s.parent q p, works := put1 s.works q true } x = dues s x := fun x => by
        have e1 := dues_parent (s.pop p q) (q := q) hq hq0 p x
        have e2 : (if (s.pop p q).parent q = (x : Int) then (1 : Int) else 0) = 0 := by
          rw [if_neg]; show ¬ s.parent q = x; omega
        have e3 : (if (p : Int) = (x : Int) then (1 : Int) else 0) = one p x := by
          unfold one
          by_cases e : p = x
          · subst e; simp
          · rw [if_neg e, if_neg (by omega)]
        have e4 := hd x
        refine Eq.trans e1 ?_
        omega
      exact {
        n1 := h.n1, n5 := h.n5
        par := fun x hx => by
          show -1 ≤ put1 s.parent q (p : Int) x ∧ put1 s.parent q (p : Int) x < (s.n : Int)
          by_cases e : x = q
          · subst e; rw [put1_self]; omega
          · rw [put1_ne _ _ e]; exact h.par x hx
        par0 := by show put1 s.parent q (p : Int) 0 = 0; rw [put1_ne _ _ (Ne.symm hq0)]; exact h.par0
        msg := hmsg
        owe := fun x hx => (h.owe x hx).trans (hd2 x).symm
        eng := fun x hx h0 => by
          show 0 ≤ put1 s.parent q (p : Int) x ↔ (put1 s.works q true x = true ∨ 0 < s.owed x)
          by_cases e : x = q
          · subst e; rw [put1_self, put1_self]; exact ⟨fun _ => .inl rfl, fun _ => by omega⟩
          · rw [put1_ne _ _ e, put1_ne _ _ e]; exact h.eng x hx h0
        cal := by
          show s.calm = true ↔ (put1 s.works q true 0 = false ∧ s.owed 0 ≤ 0)
          rw [put1_ne _ _ (Ne.symm hq0)]; exact h.cal
        rank := by
          obtain ⟨r, hr⟩ := h.rank
          refine ⟨put1 r q (r p + 1), fun x hx h0 he => ?_⟩
          show (put1 s.parent q (p : Int) x = 0 ∨ 0 ≤ put1 s.parent q (p : Int) (put1 s.parent q (p : Int) x).toNat) ∧ put1 r q (r p + 1) (put1 s.parent q (p : Int) x).toNat < put1 r q (r p + 1) x
          have he : 0 ≤ put1 s.parent q (p : Int) x := he
          by_cases e : x = q
          · subst e
            rw [put1_self, put1_self, Int.toNat_natCast, put1_ne _ _ hne, put1_ne _ _ hne]
            refine ⟨?_, by omega⟩
            by_cases e0 : p = 0
            · left; omega
            · right; exact hpe e0
          · rw [put1_ne _ _ e] at he ⊢
            rw [put1_ne r _ e]
            obtain ⟨ha, hb⟩ := hr x hx h0 he
            have hne2 : (s.parent x).toNat ≠ q := fun e' => by
              have h1 := dues_child s (p := q) hx
              rw [ch_one s h0 (by omega), ← h.owe q hq] at h1; omega
            rw [put1_ne _ _ hne2, put1_ne _ _ hne2]
            exact ⟨ha, hb⟩
        sent0 := h.sent0, sent20 := h.sent20 }
    · rw [if_neg hpar]
      have hd2 : ∀ x, dues (({ (s.pop p q) with works := put1 s.works q true } : CNet).push q p 2) x = dues s x := fun x => by
        have e1 := dues_push2 { (s.pop p q) with works := put1 s.works q true } hq hp x
        have e2 : dues { (s.pop p q) with works := put1 s.works q true } x = dues (s.pop p q) x := rfl
        have e4 := hd x
        omega
      exact {
        n1 := h.n1, n5 := h.n5, par := h.par, par0 := h.par0
        msg := msg_push (s := { (s.pop p q) with works := put1 s.works q true }) hmsg q p (.inr rfl)
        owe := fun x hx => (h.owe x hx).trans (hd2 x).symm
        eng := fun x hx h0 => by
          show 0 ≤ s.parent x ↔ (put1 s.works q true x = true ∨ 0 < s.owed x)
          by_cases e : x = q
          · subst e; rw [put1_self]; exact ⟨fun _ => .inl rfl, fun _ => by omega⟩
          · rw [put1_ne _ _ e]; exact h.eng x hx h0
        cal := by
          show s.calm = true ↔ (put1 s.works q true 0 = false ∧ s.owed 0 ≤ 0)
          rw [hcalm]
          by_cases e : 0 = q
          · subst e; rw [put1_self]; simp
          · rw [put1_ne _ _ e]
            refine ⟨fun hx => (by cases hx), fun hx => ?_⟩
            have h1 := h.cal.2 hx
            rw [hcalm] at h1; exact h1
        rank := h.rank
        sent0 := h.sent0, sent20 := h.sent20 }

theorem CNet.stop_ok {s : CNet} {p : Int} (h : s.stopErr p = 0) : ∃ a : Nat, p = a ∧ a < s.n ∧ s.works a = true := by
  unfold CNet.stopErr at h
  split at h
  · omega
  rename_i h1
  split at h
  · omega
  rename_i h3
  obtain ⟨a, rfl, ha⟩ := (s.is_iff p).1 (by cases hx : s.is p <;> simp_all)
  exact ⟨a, rfl, ha, by simpa using h3⟩

theorem CNet.step_ok {s : CNet} {p q : Int} (h : s.stepErr p q = 0) : ∃ a b : Nat, p = a ∧ q = b ∧ a < s.n ∧ b < s.n ∧ ∃ m l, s.ways a b = m :: l := by
  unfold CNet.stepErr at h
  split at h
  · omega
  rename_i h1
  split at h
  · omega
  rename_i h2
  obtain ⟨a, rfl, ha⟩ := (s.is_iff p).1 (by cases hx : s.is p <;> simp_all)
  obtain ⟨b, rfl, hb⟩ := (s.is_iff q).1 (by cases hx : s.is q <;> simp_all)
  rw [Int.toNat_natCast, Int.toNat_natCast] at h2
  cases hl : s.ways a b with
  | nil => exact absurd hl h2
  | cons m l => exact ⟨a, b, rfl, rfl, ha, hb, m, l, hl⟩

/-! ### How much is still to come -/
def sumW (s : CNet) : Int := sum2 s.n fun p q => cnt 1 (s.ways p q)
def sumT (s : CNet) : Int := sum2 s.n fun p q => cnt 2 (s.ways p q)
def eng1 (s : CNet) (q : Nat) : Int := if q ≠ 0 ∧ 0 ≤ s.parent q then 1 else 0
def wrk1 (s : CNet) (q : Nat) : Int := if s.works q = true then 1 else 0
def nEng (s : CNet) : Int := sumN s.n (eng1 s)
def nWrk (s : CNet) : Int := sumN s.n (wrk1 s)
/-- How much comes of what was given. -/
def psi (s : CNet) : Int := 2 * sumW s + sumT s + nEng s
/-- How many deeds there are still, if nothing is given. -/
def phi (s : CNet) : Int := psi s + sumW s + nWrk s

theorem psi_nonneg (s : CNet) : 0 ≤ psi s := by
  unfold psi
  have h1 : 0 ≤ sumW s := sum2_nonneg fun _ _ _ _ => cnt_nonneg _ _
  have h2 : 0 ≤ sumT s := sum2_nonneg fun _ _ _ _ => cnt_nonneg _ _
  have h3 : 0 ≤ nEng s := sum_nonneg fun _ _ => by unfold eng1; split <;> omega
  omega
theorem phi_nonneg (s : CNet) : 0 ≤ phi s := by
  unfold phi
  have := psi_nonneg s
  have h1 : 0 ≤ sumW s := sum2_nonneg fun _ _ _ _ => cnt_nonneg _ _
  have h3 : 0 ≤ nWrk s := sum_nonneg fun _ _ => by unfold wrk1; split <;> omega
  omega

theorem sum2_put2 {n : Nat} (f : List Int → Int) (W : Nat → Nat → List Int) {p q : Nat} (l : List Int) (hp : p < n) (hq : q < n) :
    sum2 n (fun a b => f (put2 W p q l a b)) = sum2 n (fun a b => f (W a b)) + (f l - f (W p q)) := by
  rw [sum2_upd (f := fun a b => f (W a b)) (p := p) (q := q) hp hq (fun a b _ _ h => by rw [put2_ne _ _ h])]
  simp [put2_self]

theorem sumW_push (s : CNet) {p q : Nat} (m : Int) (hp : p < s.n) (hq : q < s.n) : sumW (s.push p q m) = sumW s + (if m = 1 then 1 else 0) := by
  have := sum2_put2 (cnt 1) s.ways (s.ways p q ++ [m]) hp hq
  rw [cnt_app] at this
  show sum2 s.n (fun a b => cnt 1 (put2 s.ways p q _ a b)) = _
  rw [this]; unfold sumW; omega
theorem sumT_push (s : CNet) {p q : Nat} (m : Int) (hp : p < s.n) (hq : q < s.n) : sumT (s.push p q m) = sumT s + (if m = 2 then 1 else 0) := by
  have := sum2_put2 (cnt 2) s.ways (s.ways p q ++ [m]) hp hq
  rw [cnt_app] at this
  show sum2 s.n (fun a b => cnt 2 (put2 s.ways p q _ a b)) = _
  rw [this]; unfold sumT; omega
theorem sumW_pop (s : CNet) {p q : Nat} {m : Int} {l : List Int} (hp : p < s.n) (hq : q < s.n) (h : s.ways p q = m :: l) : sumW (s.pop p q) = sumW s - (if m = 1 then 1 else 0) := by
  have := sum2_put2 (cnt 1) s.ways (s.ways p q).tail hp hq
  rw [h, List.tail_cons, cnt_cons] at this
  show sum2 s.n (fun a b => cnt 1 (put2 s.ways p q _ a b)) = _
  rw [h, List.tail_cons, this]; unfold sumW; omega
theorem sumT_pop (s : CNet) {p q : Nat} {m : Int} {l : List Int} (hp : p < s.n) (hq : q < s.n) (h : s.ways p q = m :: l) : sumT (s.pop p q) = sumT s - (if m = 2 then 1 else 0) := by
  have := sum2_put2 (cnt 2) s.ways (s.ways p q).tail hp hq
  rw [h, List.tail_cons, cnt_cons] at this
  show sum2 s.n (fun a b => cnt 2 (put2 s.ways p q _ a b)) = _
  rw [h, List.tail_cons, this]; unfold sumT; omega

theorem nEng_put (s : CNet) {q : Nat} (hq : q < s.n) (v : Int) : nEng { s with parent := put1 s.parent q v } = nEng s + ((if q ≠ 0 ∧ 0 ≤ v then 1 else 0) - eng1 s q) := by
  have := sum_upd (n := s.n) (f := eng1 s) (g := eng1 { s with parent := put1 s.parent q v }) (p := q) hq (fun j _ hj => by
    simp only [eng1, put1_ne s.parent v hj])
  have e1 : eng1 { s with parent := put1 s.parent q v } q = if q ≠ 0 ∧ 0 ≤ v then 1 else 0 := by simp only [eng1, put1_self]
  rw [e1] at this
  exact this
theorem nWrk_put (s : CNet) {q : Nat} (hq : q < s.n) (v : Bool) : nWrk { s with works := put1 s.works q v } = nWrk s + ((if v = true then 1 else 0) - wrk1 s q) := by
  have := sum_upd (n := s.n) (f := wrk1 s) (g := wrk1 { s with works := put1 s.works q v }) (p := q) hq (fun j _ hj => by
    simp only [wrk1, put1_ne s.works v hj])
  have e1 : wrk1 { s with works := put1 s.works q v } q = if v = true then 1 else 0 := by simp only [wrk1, put1_self]
  rw [e1] at this
  exact this

/-- Resting changes nothing of it. -/
theorem pots_rest (s : CNet) {q : Nat} (hq : q < s.n) (hpar : s.parent q < s.n) : psi (s.rest q) = psi s ∧ phi (s.rest q) = phi s ∧ (s.rest q).n = s.n ∧ (s.rest q).sent = s.sent := by
  unfold CNet.rest
  split
  · exact ⟨rfl, rfl, rfl, rfl⟩
  split
  · exact ⟨rfl, rfl, rfl, rfl⟩
  split
  · exact ⟨rfl, rfl, rfl, rfl⟩
  rename_i h3
  split
  · exact ⟨rfl, rfl, rfl, rfl⟩
  rename_i h4
  have hu : (s.parent q).toNat < s.n := by omega
  have e1 := sumW_push s (p := q) (q := (s.parent q).toNat) 2 hq hu
  have e2 := sumT_push s (p := q) (q := (s.parent q).toNat) 2 hq hu
  rw [if_neg (by decide)] at e1
  rw [if_pos rfl] at e2
  have e3 := nEng_put (s.push q (s.parent q).toNat 2) (q := q) hq (-1)
  have e4 : eng1 (s.push q (s.parent q).toNat 2) q = 1 := by
    show (if q ≠ 0 ∧ 0 ≤ s.parent q then (1 : Int) else 0) = 1
    rw [if_pos ⟨h4, by omega⟩]
  rw [e4, if_neg (by omega)] at e3
  have e5 : nEng (s.push q (s.parent q).toNat 2) = nEng s := rfl
  have e6 : nEng { s.push q (s.parent q).toNat 2 with parent := put1 s.parent q (-1) } = nEng s - 1 := by
    refine Eq.trans e3 ?_
    omega
  have e7 : sumW { s.push q (s.parent q).toNat 2 with parent := put1 s.parent q (-1) } = sumW s := by
    show sumW (s.push q (s.parent q).toNat 2) = _
    omega
  have e8 : sumT { s.push q (s.parent q).toNat 2 with parent := put1 s.parent q (-1) } = sumT s + 1 := e2
  have e9 : nWrk { s.push q (s.parent q).toNat 2 with parent := put1 s.parent q (-1) } = nWrk s := rfl
  refine ⟨?_, ?_, rfl, rfl⟩
  · unfold psi; rw [e6, e7, e8]; omega
  · unfold phi psi; rw [e6, e7, e8, e9]; omega

theorem pots_give (s : CNet) {a b : Nat} (ha : a < s.n) (hb : b < s.n) : psi (s.give0 a b) = psi s + 2 ∧ phi (s.give0 a b) = phi s + 3 := by
  have e1 := sumW_push { s with sent := s.sent + 1, owed := put1 s.owed a (s.owed a + 1) } (p := a) (q := b) 1 ha hb
  have e2 := sumT_push { s with sent := s.sent + 1, owed := put1 s.owed a (s.owed a + 1) } (p := a) (q := b) 1 ha hb
  rw [if_pos rfl] at e1
  rw [if_neg (by decide)] at e2
  have e1 : sumW (s.give0 a b) = sumW s + 1 := e1
  have e2 : sumT (s.give0 a b) = sumT s + 0 := e2
  have e3 : nEng (s.give0 a b) = nEng s := rfl
  have e4 : nWrk (s.give0 a b) = nWrk s := rfl
  unfold phi psi
  rw [e1, e2, e3, e4]
  omega

theorem pots_stop (s : CNet) {a : Nat} (ha : a < s.n) (hpar : s.parent a < s.n) (hw : s.works a = true) : psi (s.stop0 a) = psi s ∧ phi (s.stop0 a) = phi s - 1 ∧ (s.stop0 a).n = s.n ∧ (s.stop0 a).sent = s.sent := by
  have h1 := pots_rest { s with works := put1 s.works a false } (q := a) ha hpar
  have h2 := nWrk_put s ha false
  rw [if_neg (by decide), show wrk1 s a = 1 from if_pos hw] at h2
  have h3 : psi { s with works := put1 s.works a false } = psi s := rfl
  have h4 : phi { s with works := put1 s.works a false } = psi s + sumW s + nWrk { s with works := put1 s.works a false } := rfl
  refine ⟨h1.1.trans h3, ?_, h1.2.2⟩
  have h5 := h1.2.1
  show phi (CNet.rest _ a) = phi s - 1
  rw [h5, h4, h2]; unfold phi; omega

theorem pots_hear (s : CNet) {p q : Nat} {m : Int} {l : List Int} (hp : p < s.n) (hq : q < s.n) (hpar : s.parent q < s.n) (hq0 : s.parent q < 0 → q ≠ 0) (hl : s.ways p q = m :: l) (hm : m = 1 ∨ m = 2) :
    psi ((s.pop p q).hear p q m) = psi s - 1 ∧ phi ((s.pop p q).hear p q m) ≤ phi s - 1 ∧ ((s.pop p q).hear p q m).n = s.n ∧ ((s.pop p q).hear p q m).sent = s.sent := by
  have w1 := sumW_pop s hp hq hl
  have t1 := sumT_pop s hp hq hl
  have k1 : wrk1 s q = 0 ∨ wrk1 s q = 1 := by unfold wrk1; split <;> simp
  have b1 := nWrk_put (s.pop p q) (q := q) hq true
  rw [if_pos rfl] at b1
  have b2 : nWrk { s.pop p q with works := put1 (s.pop p q).works q true } = nWrk s + (1 - wrk1 s q) := b1
  rcases hm with rfl | rfl
  · rw [if_pos rfl] at w1
    rw [if_neg (by decide)] at t1
    unfold CNet.hear
    rw [if_neg (by decide)]
    by_cases h : (s.pop p q).parent q < 0
    · rw [if_pos h]
      have h' : s.parent q < 0 := h
      have n1 := nEng_put (s.pop p q) (q := q) hq p
      rw [if_pos ⟨hq0 h', by omega⟩, show eng1 (s.pop p q) q = 0 from if_neg (fun hx => by have : 0 ≤ s.parent q := hx.2; omega)] at n1
      have n2 : nEng { s.pop p q with parent := put1 (s.pop p q).parent q (p : Int), works := put1 (s.pop p q).works q true } = nEng s + (1 - 0) := n1
      have w2 : sumW { s.pop p q with parent := put1 (s.pop p q).parent q (p : Int), works := put1 (s.pop p q).works q true } = sumW s - 1 := w1
      have t2 : sumT { s.pop p q with parent := put1 (s.pop p q).parent q (p : Int), works := put1 (s.pop p q).works q true } = sumT s - 0 := t1
      have b3 : nWrk { s.pop p q with parent := put1 (s.pop p q).parent q (p : Int), works := put1 (s.pop p q).works q true } = nWrk s + (1 - wrk1 s q) := b1
      refine ⟨?_, ?_, rfl, rfl⟩
      · unfold psi; rw [n2, w2, t2]; omega
      · unfold phi psi; rw [n2, w2, t2, b3]; omega
    · rw [if_neg h]
      have w2 := sumW_push { s.pop p q with works := put1 (s.pop p q).works q true } (p := q) (q := p) 2 hq hp
      have t2 := sumT_push { s.pop p q with works := put1 (s.pop p q).works q true } (p := q) (q := p) 2 hq hp
      rw [if_neg (by decide)] at w2
      rw [if_pos rfl] at t2
      have w3 : sumW { s.pop p q with works := put1 (s.pop p q).works q true } = sumW s - 1 := w1
      have t3 : sumT { s.pop p q with works := put1 (s.pop p q).works q true } = sumT s - 0 := t1
      rw [w3] at w2
      rw [t3] at t2
      have n2 : nEng (CNet.push { s.pop p q with works := put1 (s.pop p q).works q true } q p 2) = nEng s := rfl
      have b3 : nWrk (CNet.push { s.pop p q with works := put1 (s.pop p q).works q true } q p 2) = nWrk s + (1 - wrk1 s q) := b1
      refine ⟨?_, ?_, rfl, rfl⟩
      · unfold psi; rw [n2, w2, t2]; omega
      · unfold phi psi; rw [n2, w2, t2, b3]; omega
  · rw [if_neg (by decide)] at w1
    rw [if_pos rfl] at t1
    unfold CNet.hear
    rw [if_pos rfl]
    have h1 := pots_rest { s.pop p q with owed := put1 (s.pop p q).owed q ((s.pop p q).owed q - 1) } (q := q) hq hpar
    have w2 : sumW { s.pop p q with owed := put1 (s.pop p q).owed q ((s.pop p q).owed q - 1) } = sumW s - 0 := w1
    have t2 : sumT { s.pop p q with owed := put1 (s.pop p q).owed q ((s.pop p q).owed q - 1) } = sumT s - 1 := t1
    have n2 : nEng { s.pop p q with owed := put1 (s.pop p q).owed q ((s.pop p q).owed q - 1) } = nEng s := rfl
    have b3 : nWrk { s.pop p q with owed := put1 (s.pop p q).owed q ((s.pop p q).owed q - 1) } = nWrk s := rfl
    obtain ⟨a1, a2, a3, a4⟩ := h1
    refine ⟨?_, ?_, a3, a4⟩
    · rw [a1]; unfold psi; rw [w2, t2, n2]; omega
    · rw [a2]; unfold phi psi; rw [w2, t2, n2, b3]; omega

/-! ### The deeds -/
/-- What is true behind any deed: how much was given, how much is to come. -/
structure CBnd (s : CNet) : Prop where
  inv : CInv s
  psiLe : psi s ≤ 2 * s.sent
  phiLe : phi s ≤ 3 * s.sent + 1

theorem CBnd.start {n : Nat} (h1 : 1 ≤ n) (h5 : n ≤ 5) : CBnd (CNet.init n) := by
  have hW : sumW (CNet.init n) = 0 := sum2_zero fun _ _ _ _ => rfl
  have hT : sumT (CNet.init n) = 0 := sum2_zero fun _ _ _ _ => rfl
  have hE : nEng (CNet.init n) = 0 := sum_zero fun q _ => by
    unfold eng1; rw [if_neg]
    rintro ⟨h0, h⟩
    have : (CNet.init n).parent q = -1 := if_neg h0
    omega
  have hK : nWrk (CNet.init n) = 1 := by
    have := sum_upd (n := n) (f := fun _ => 0) (g := wrk1 (CNet.init n)) (p := 0) (by omega) (fun j _ hj => by
      show (if decide (j = 0) = true then (1 : Int) else 0) = 0
      simp [hj])
    rw [sum_zero (fun _ _ => rfl)] at this
    exact this
  refine ⟨CInv.start h1 h5, ?_, ?_⟩
  · unfold psi; rw [hW, hT, hE]; exact Int.le_refl _
  · unfold phi psi; rw [hW, hT, hE, hK]; exact Int.le_refl _

theorem CBnd.give {s : CNet} (h : CBnd s) (p q : Int) : CBnd (s.give p q) ∧ (s.give p q).n = s.n ∧ (s.giveErr p q = 0 → psi (s.give p q) = psi s + 2 ∧ (s.give p q).sent = s.sent + 1) ∧ (s.giveErr p q ≠ 0 → s.give p q = s) := by
  unfold CNet.give
  by_cases he : s.giveErr p q = 0
  · rw [if_pos he]
    obtain ⟨a, b, rfl, rfl, ha, hb, hab, hw, hs⟩ := CNet.give_ok he
    rw [Int.toNat_natCast, Int.toNat_natCast]
    have hp := pots_give s ha hb
    have e : (s.give0 a b).sent = s.sent + 1 := rfl
    have h1 := h.psiLe
    have h2 := h.phiLe
    exact ⟨⟨h.inv.give0 ha hb hw hs, by rw [hp.1, e]; omega, by rw [hp.2, e]; omega⟩, rfl, fun _ => ⟨hp.1, rfl⟩, fun hne => absurd he hne⟩
  · rw [if_neg he]
    exact ⟨h, rfl, fun h' => absurd h' he, fun _ => rfl⟩

theorem CBnd.stop {s : CNet} (h : CBnd s) (p : Int) : CBnd (s.stop p) ∧ (s.stop p).n = s.n ∧ (s.stop p).sent = s.sent ∧ psi (s.stop p) = psi s ∧ (s.stopErr p = 0 → phi (s.stop p) = phi s - 1) ∧ (s.stopErr p ≠ 0 → s.stop p = s) := by
  unfold CNet.stop
  by_cases he : s.stopErr p = 0
  · rw [if_pos he]
    obtain ⟨a, rfl, ha, hw⟩ := CNet.stop_ok he
    rw [Int.toNat_natCast]
    obtain ⟨h1, h2, h3, h4⟩ := pots_stop s ha (h.inv.par a ha).2 hw
    have h5 := h.psiLe
    have h6 := h.phiLe
    exact ⟨⟨h.inv.stop0 ha hw, by rw [h1, h4]; exact h5, by rw [h2, h4]; omega⟩, h3, h4, h1, fun _ => h2, fun hne => absurd he hne⟩
  · rw [if_neg he]
    exact ⟨h, rfl, rfl, rfl, fun h' => absurd h' he, fun _ => rfl⟩

theorem CBnd.step {s : CNet} (h : CBnd s) (p q : Int) : CBnd (s.step p q) ∧ (s.step p q).n = s.n ∧ (s.step p q).sent = s.sent ∧ (s.stepErr p q = 0 → psi (s.step p q) = psi s - 1 ∧ phi (s.step p q) ≤ phi s - 1) ∧ (s.stepErr p q ≠ 0 → s.step p q = s) := by
  unfold CNet.step
  by_cases he : s.stepErr p q = 0
  · rw [if_pos he]
    obtain ⟨a, b, rfl, rfl, ha, hb, m, l, hl⟩ := CNet.step_ok he
    rw [Int.toNat_natCast, Int.toNat_natCast, hl, List.headD_cons]
    obtain ⟨h1, h2, h3, h4⟩ := pots_hear s ha hb (h.inv.par b hb).2 (fun hx e => by subst e; have := h.inv.par0; omega) hl (h.inv.msg a b m (by rw [hl]; simp))
    have h5 := h.psiLe
    have h6 := h.phiLe
    exact ⟨⟨h.inv.hear ha hb hl, by rw [h1, h4]; omega, by rw [h4]; omega⟩, h3, h4, fun _ => ⟨h1, h2⟩, fun hne => absurd he hne⟩
  · rw [if_neg he]
    exact ⟨h, rfl, rfl, fun h' => absurd h' he, fun _ => rfl⟩

/-- Where nobody works and nothing is on any way, all is calm. -/
theorem CInv.still {s : CNet} (h : CInv s) (hw : ∀ p, p < s.n → s.works p = false) (he : ∀ p q, p < s.n → q < s.n → s.ways p q = []) :
    s.calm = true ∧ (∀ p, p < s.n → s.owed p = 0) ∧ (∀ p, p < s.n → p ≠ 0 → s.parent p = -1) ∧ psi s = 0 := by
  obtain ⟨r, hr⟩ := h.rank
  have hdue : ∀ p, p < s.n → dues s p = sumN s.n (fun q => ch s q p) := fun p hp => by
    unfold dues
    rw [sum_zero (fun q hq => by rw [he p q hp hq]; rfl), sum_zero (fun q hq => by rw [he q p hq hp]; rfl)]
    omega
  have hM : ∀ q, q < s.n → (r q : Int) ≤ sumN s.n (fun j => (r j : Int)) := fun q hq => sum_ge (f := fun j => (r j : Int)) (fun _ _ => by omega) hq
  have key : ∀ (d : Nat) (p : Nat), p < s.n → p ≠ 0 → 0 ≤ s.parent p → (r p : Int) + d ≤ sumN s.n (fun j => (r j : Int)) := by
    intro d
    induction d with
    | zero => intro p hp _ _; have := hM p hp; omega
    | succ d ih =>
      intro p hp h0 hpe
      have h1 := (h.eng p hp h0).1 hpe
      have h2 : 0 < s.owed p := by
        rcases h1 with h1 | h1
        · rw [hw p hp] at h1; cases h1
        · exact h1
      rw [h.owe p hp, hdue p hp] at h2
      obtain ⟨c, hc, hpos⟩ := sum_pos h2
      unfold ch at hpos
      split at hpos
      · rename_i hcc
        have h3 := hr c hc hcc.1 (by omega)
        have h4 := ih c hc hcc.1 (by omega)
        rw [hcc.2, Int.toNat_natCast] at h3
        have := h3.2
        push_cast
        omega
      · omega
  have hnone : ∀ p, p < s.n → p ≠ 0 → s.parent p = -1 := fun p hp h0 => by
    have h1 := (h.par p hp).1
    refine Classical.byContradiction fun hn => ?_
    have h2 := key ((sumN s.n (fun j => (r j : Int))).toNat + 1) p hp h0 (by omega)
    have := sum_nonneg (n := s.n) (f := fun j => (r j : Int)) (fun _ _ => by omega)
    push_cast at h2
    omega
  have hnoch : ∀ p, p < s.n → s.owed p = 0 := fun p hp => by
    rw [h.owe p hp, hdue p hp]
    refine sum_zero fun q hq => ?_
    unfold ch; rw [if_neg]
    rintro ⟨h0, h1⟩
    rw [hnone q hq h0] at h1; omega
  have h0n : 0 < s.n := h.n1
  refine ⟨h.cal.2 ⟨hw 0 h0n, by rw [hnoch 0 h0n]; exact Int.le_refl _⟩, hnoch, hnone, ?_⟩
  have hW : sumW s = 0 := sum2_zero fun p q hp hq => by rw [he p q hp hq]; rfl
  have hT : sumT s = 0 := sum2_zero fun p q hp hq => by rw [he p q hp hq]; rfl
  have hE : nEng s = 0 := sum_zero fun q hq => by
    unfold eng1; rw [if_neg]
    rintro ⟨h0, h1⟩
    rw [hnone q hq h0] at h1; omega
  unfold psi; rw [hW, hT, hE]; rfl

/-! ### A round -/
/-- A round that began with so much to come, up to a place: who was tried from did nothing, or less is to come. -/
def CRnd (P : Int) (T : CNet → Prop) (s : CNet) : Prop := CBnd s ∧ (phi s + 1 ≤ P ∨ (phi s ≤ P ∧ T s))

end Go.Proofs.YtbckjmbhipofaaaDoor
