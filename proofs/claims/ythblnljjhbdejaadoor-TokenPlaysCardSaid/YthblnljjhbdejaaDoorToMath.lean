/-
  The lock whose token goes from one to the next, plain: what asking, leaving, stepping and bringing do.
  Conditions: none beyond those of each lemma.
-/
import Derived.Test.YthblnljjhbdejaaDoorSum
namespace Go.Proofs.YthblnljjhbdejaaDoor

structure TNet where
  n : Nat
  asks : Nat → Bool
  inn : Nat → Bool
  had : Nat → Nat → Int
  holder : Int
  target : Int
  served : Nat → Int
  queue : List Int
  ways : Nat → Nat → List Int

def TNet.init (n : Nat) : TNet := ⟨n, fun _ => false, fun _ => false, fun _ _ => 0, 0, 0, fun _ => 0, [], fun _ _ => []⟩
def TNet.is (s : TNet) (p : Int) : Bool := decide (0 ≤ p) && decide (p ≤ (s.n : Int) - 1)
def TNet.push (s : TNet) (p q : Nat) (m : Int) : TNet := { s with ways := put2 s.ways p q (s.ways p q ++ [m]) }
def TNet.pop (s : TNet) (p q : Nat) : TNet := { s with ways := put2 s.ways p q (s.ways p q).tail }
/-- From p to the first j other ones. -/
def TNet.bcast (s : TNet) (p : Nat) (m : Int) (j : Nat) : TNet := { s with ways := fun a b => if a = p ∧ b < j ∧ b ≠ p then s.ways a b ++ [m] else s.ways a b }

def TNet.askErr (s : TNet) (p : Int) : Int := if s.is p = false then 1 else if s.asks p.toNat = true ∨ s.inn p.toNat = true then 7 else if 1000 ≤ s.had p.toNat p.toNat then 4 else 0
def TNet.ask1 (s : TNet) (p : Nat) : TNet := { s with had := put2 s.had p p (s.had p p + 1) }
def TNet.ask0 (s : TNet) (p : Nat) : TNet := if s.holder = p then { s.ask1 p with inn := put1 s.inn p true } else ({ s.ask1 p with asks := put1 s.asks p true } : TNet).bcast p (s.had p p + 1) s.n
def TNet.ask (s : TNet) (p : Int) : TNet := if s.askErr p = 0 then s.ask0 p.toNat else s

def TNet.give (s : TNet) : TNet := match s.queue with
  | [] => s
  | q :: l => { s with holder := -1, target := q, queue := l }

/-- The queue with the first j of those that p knows to ask. -/
def enqL (s : TNet) (p : Nat) : Nat → List Int
  | 0 => s.queue
  | j + 1 => if s.had p j = s.served j + 1 ∧ (enqL s p j).contains (j : Int) = false then enqL s p j ++ [(j : Int)] else enqL s p j

def TNet.leaveErr (s : TNet) (p : Int) : Int := if s.is p = false then 1 else if s.inn p.toNat = false then 7 else 0
def TNet.leave1 (s : TNet) (p : Nat) : TNet := { s with inn := put1 s.inn p false, served := put1 s.served p (s.had p p) }
def TNet.leave0 (s : TNet) (p : Nat) : TNet := ({ s.leave1 p with queue := enqL (s.leave1 p) p s.n } : TNet).give
def TNet.leave (s : TNet) (p : Int) : TNet := if s.leaveErr p = 0 then s.leave0 p.toNat else s

def TNet.stepErr (s : TNet) (p q : Int) : Int := if s.is p = false ∨ s.is q = false then 1 else if s.ways p.toNat q.toNat = [] then 5 else 0
def TNet.hear1 (s : TNet) (p q : Nat) (m : Int) : TNet := { s with had := put2 s.had q p (max (s.had q p) m) }
def TNet.hear (s : TNet) (p q : Nat) (m : Int) : TNet :=
  if s.holder = q ∧ s.inn q = false ∧ max (s.had q p) m = s.served p + 1 then ({ s.hear1 p q m with queue := s.queue ++ [(p : Int)] } : TNet).give else s.hear1 p q m
def TNet.step (s : TNet) (p q : Int) : TNet := if s.stepErr p q = 0 then (s.pop p.toNat q.toNat).hear p.toNat q.toNat ((s.ways p.toNat q.toNat).headD 0) else s

def TNet.bringErr (s : TNet) : Int := if 0 ≤ s.holder then 5 else 0
def TNet.bring0 (s : TNet) : TNet := { s with holder := s.target, asks := put1 s.asks s.target.toNat false, inn := put1 s.inn s.target.toNat true }
def TNet.bring (s : TNet) : TNet := if s.bringErr = 0 then s.bring0 else s

theorem TNet.is_iff (s : TNet) (p : Int) : s.is p = true ↔ ∃ k : Nat, p = k ∧ k < s.n := by
  unfold TNet.is
  rw [Bool.and_eq_true, decide_eq_true_eq, decide_eq_true_eq]
  constructor
  · rintro ⟨h1, h2⟩; exact ⟨p.toNat, by omega, by omega⟩
  · rintro ⟨k, rfl, hk⟩; omega

/-- What stays true, but for what the one who has the token must do. -/
structure TPre (s : TNet) : Prop where
  n1 : 1 ≤ s.n
  n4 : s.n ≤ 4
  hold : (s.holder = -1 ∧ ∃ k : Nat, s.target = k ∧ k < s.n ∧ s.asks k = true) ∨ ∃ k : Nat, s.holder = k ∧ k < s.n
  inH : ∀ p, p < s.n → s.inn p = true → s.holder = p
  holdA : ∀ p, p < s.n → s.holder = p → s.asks p = false
  act : ∀ p, p < s.n → (s.asks p = true ∨ s.inn p = true) → s.had p p = s.served p + 1
  idle : ∀ p, p < s.n → s.asks p = false → s.inn p = false → s.had p p = s.served p
  qnd : s.queue.Nodup
  que : ∀ x ∈ s.queue, ∃ q : Nat, x = q ∧ q < s.n ∧ s.asks q = true ∧ (s.holder = -1 → s.target ≠ q)
  self : ∀ p, p < s.n → s.ways p p = []
  knw : ∀ p q, p < s.n → q < s.n → 0 ≤ s.had q p ∧ s.had q p ≤ s.had p p
  msg : ∀ p q, p < s.n → q < s.n → ∀ m ∈ s.ways p q, 0 ≤ m ∧ m ≤ s.had p p
  sent : ∀ p q, p < s.n → q < s.n → p ≠ q → s.asks p = true → s.had q p = s.had p p ∨ s.had p p ∈ s.ways p q
  srv : ∀ p, p < s.n → 0 ≤ s.served p
  top : ∀ p, p < s.n → s.had p p ≤ 1000

structure TInv (s : TNet) : Prop extends TPre s where
  idleQ : ∀ h, h < s.n → s.holder = h → s.inn h = false → s.queue = []
  idleK : ∀ h p, h < s.n → p < s.n → p ≠ h → s.holder = h → s.inn h = false → s.had h p ≤ s.served p

theorem TInv.start {n : Nat} (h1 : 1 ≤ n) (h4 : n ≤ 4) : TInv (TNet.init n) where
  n1 := h1
  n4 := h4
  hold := .inr ⟨0, rfl, h1⟩
  inH := fun _ _ h => by cases h
  holdA := fun _ _ _ => rfl
  act := fun _ _ h => by rcases h with h | h <;> cases h
  idle := fun _ _ _ _ => rfl
  qnd := List.nodup_nil
  que := fun x hx => by cases hx
  self := fun _ _ => rfl
  knw := fun _ _ _ _ => ⟨Int.le_refl _, Int.le_refl _⟩
  msg := fun _ _ _ _ m hm => by cases hm
  sent := fun _ _ _ _ _ h => by cases h
  srv := fun _ _ => Int.le_refl _
  top := fun _ _ => show (0 : Int) ≤ 1000 by decide
  idleQ := fun _ _ _ _ => rfl
  idleK := fun _ _ _ _ _ _ _ => Int.le_refl _

/-- Giving on. -/
theorem TPre.give {s : TNet} (h : TPre s) {k : Nat} (_hk : k < s.n) (hh : s.holder = k) (hi : s.inn k = false) (hidle : s.queue = [] → ∀ p, p < s.n → p ≠ k → s.had k p ≤ s.served p) : TInv s.give := by
  have hno : ∀ p, p < s.n → s.inn p = false := fun p hp => by
    cases hx : s.inn p with
    | false => rfl
    | true =>
      have := h.inH p hp hx
      obtain rfl : k = p := by omega
      rw [hi] at hx; cases hx
  unfold TNet.give
  cases hq : s.queue with
  | nil =>
    show TInv s
    exact { toTPre := h, idleQ := fun _ _ _ _ => hq
            idleK := fun a p ha hp hne hha _ => by
              obtain rfl : k = a := by omega
              exact hidle hq p hp hne }
  | cons q l =>
    obtain ⟨a, rfl, ha, haa, _⟩ := h.que q (by rw [hq]; simp)
    have hnd := h.qnd
    rw [hq, List.nodup_cons] at hnd
    exact {
      n1 := h.n1, n4 := h.n4
      hold := .inl ⟨rfl, a, rfl, ha, haa⟩
      inH := fun p hp hx => by
        have hx : s.inn p = true := hx
        rw [hno p hp] at hx; cases hx
      holdA := fun p hp hx => by
        have hx : (-1 : Int) = p := hx
        omega
      act := h.act, idle := h.idle
      qnd := hnd.2
      que := fun x hx => by
        obtain ⟨b, rfl, hb, hba, _⟩ := h.que x (by rw [hq]; exact List.mem_cons_of_mem _ hx)
        refine ⟨b, rfl, hb, hba, fun _ e => ?_⟩
        have e : (a : Int) = b := e
        rw [e] at hnd; exact hnd.1 hx
      self := h.self, knw := h.knw, msg := h.msg, sent := h.sent, srv := h.srv, top := h.top
      idleQ := fun b _ hx _ => by
        have hx : (-1 : Int) = b := hx
        omega
      idleK := fun b _ _ _ _ hx _ => by
        have hx : (-1 : Int) = b := hx
        omega }

theorem enq_mem (s : TNet) (p : Nat) : ∀ j x, x ∈ enqL s p j → x ∈ s.queue ∨ ∃ q : Nat, x = q ∧ q < j ∧ s.had p q = s.served q + 1
  | 0, x, h => .inl h
  | j + 1, x, h => by
    rw [enqL] at h
    split at h
    · rename_i hc
      rw [List.mem_append, List.mem_singleton] at h
      rcases h with h | h
      · rcases enq_mem s p j x h with h | ⟨q, e, hq, hh⟩
        · exact .inl h
        · exact .inr ⟨q, e, by omega, hh⟩
      · exact .inr ⟨j, h, by omega, hc.1⟩
    · rcases enq_mem s p j x h with h | ⟨q, e, hq, hh⟩
      · exact .inl h
      · exact .inr ⟨q, e, by omega, hh⟩

theorem enq_nodup (s : TNet) (p : Nat) (h : s.queue.Nodup) : ∀ j, (enqL s p j).Nodup
  | 0 => h
  | j + 1 => by
    have ih := enq_nodup s p h j
    rw [enqL]
    split
    · rename_i hc
      rw [List.nodup_append]
      refine ⟨ih, by simp, fun a ha b hb e => ?_⟩
      rw [List.mem_singleton] at hb
      have : (enqL s p j).contains (j : Int) = true := List.contains_iff_mem.2 (by rw [← hb, ← e]; exact ha)
      rw [hc.2] at this; cases this
    · exact ih

theorem enq_all (s : TNet) (p : Nat) : ∀ j q, q < j → s.had p q = s.served q + 1 → (q : Int) ∈ enqL s p j
  | j + 1, q, hq, hh => by
    rw [enqL]
    by_cases e : q = j
    · subst e
      split
      · simp
      · rename_i hc
        refine List.contains_iff_mem.1 ?_
        cases hx : (enqL s p q).contains (q : Int) with
        | true => rfl
        | false => exact absurd ⟨hh, hx⟩ hc
    · have := enq_all s p j q (by omega) hh
      split
      · exact List.mem_append_left _ this
      · exact this

theorem TNet.leave_ok {s : TNet} {p : Int} (h : s.leaveErr p = 0) : ∃ a : Nat, p = a ∧ a < s.n ∧ s.inn a = true := by
  unfold TNet.leaveErr at h
  split at h
  · omega
  rename_i h1
  split at h
  · omega
  rename_i h2
  obtain ⟨a, rfl, ha⟩ := (s.is_iff p).1 (by cases hx : s.is p <;> simp_all)
  rw [Int.toNat_natCast] at h2
  exact ⟨a, rfl, ha, by simpa using h2⟩

theorem TInv.leave0 {s : TNet} (h : TInv s) {p : Nat} (hp : p < s.n) (hi : s.inn p = true) : TInv (s.leave0 p) := by
  have hh := h.inH p hp hi
  have hasks := h.holdA p hp hh
  have hsv : ∀ a, a ≠ p → put1 s.served p (s.had p p) a = s.served a := fun a ha => put1_ne _ _ ha
  have hin : ∀ a, a ≠ p → put1 s.inn p false a = s.inn a := fun a ha => put1_ne _ _ ha
  refine TPre.give (k := p) ?_ hp hh (put1_self _ _ _) (fun hq a ha hne => ?_)
  · exact {
      n1 := h.n1, n4 := h.n4
      hold := .inr ⟨p, hh, hp⟩
      inH := fun a ha hx => by
        have hx : put1 s.inn p false a = true := hx
        by_cases e : a = p
        · subst e; rw [put1_self] at hx; cases hx
        · rw [hin a e] at hx; exact h.inH a ha hx
      holdA := h.holdA
      act := fun a ha hx => by
        have hx : s.asks a = true ∨ put1 s.inn p false a = true := hx
        show s.had a a = put1 s.served p (s.had p p) a + 1
        by_cases e : a = p
        · subst e; rw [put1_self, hasks] at hx; rcases hx with hx | hx <;> cases hx
        · rw [hin a e] at hx; rw [hsv a e]; exact h.act a ha hx
      idle := fun a ha h1 h2 => by
        have h2 : put1 s.inn p false a = false := h2
        show s.had a a = put1 s.served p (s.had p p) a
        by_cases e : a = p
        · subst e; rw [put1_self]
        · rw [hin a e] at h2; rw [hsv a e]; exact h.idle a ha h1 h2
      qnd := enq_nodup (s.leave1 p) p h.qnd _
      que := fun x hx => by
        rcases enq_mem (s.leave1 p) p _ x hx with hx | ⟨q, rfl, hq, hx⟩
        · obtain ⟨q, rfl, hq, hqa, hqt⟩ := h.que x hx
          exact ⟨q, rfl, hq, hqa, hqt⟩
        · have hx : s.had p q = put1 s.served p (s.had p p) q + 1 := hx
          refine ⟨q, rfl, hq, ?_, fun e => by have e : s.holder = -1 := e; omega⟩
          show s.asks q = true
          by_cases e : q = p
          · subst e; rw [put1_self] at hx; omega
          · rw [hsv q e] at hx
            have h3 := (h.knw q p hq hp).2
            cases ha : s.asks q with
            | true => rfl
            | false =>
              have h4 : s.inn q = false := by
                cases h5 : s.inn q with
                | false => rfl
                | true => have := h.inH q hq h5; omega
              have := h.idle q hq ha h4; omega
      self := h.self, knw := h.knw, msg := h.msg, sent := h.sent
      srv := fun a ha => by
        show 0 ≤ put1 s.served p (s.had p p) a
        by_cases e : a = p
        · subst e; rw [put1_self]; exact (h.knw a a ha ha).1
        · rw [hsv a e]; exact h.srv a ha
      top := h.top }
  · have hq : enqL (s.leave1 p) p s.n = [] := hq
    show s.had p a ≤ put1 s.served p (s.had p p) a
    rw [hsv a hne]
    have h1 := (h.knw a p ha hp).2
    have h2 : s.had a a ≤ s.served a + 1 := by
      by_cases hx : s.asks a = true ∨ s.inn a = true
      · have := h.act a ha hx; omega
      · have ha1 : s.asks a = false := by
          cases hb : s.asks a with
          | false => rfl
          | true => exact absurd (.inl hb) hx
        have ha2 : s.inn a = false := by
          cases hb : s.inn a with
          | false => rfl
          | true => exact absurd (.inr hb) hx
        have := h.idle a ha ha1 ha2; omega
    refine Classical.byContradiction fun hn => ?_
    have h3 : (s.leave1 p).had p a = (s.leave1 p).served a + 1 := by
      show s.had p a = put1 s.served p (s.had p p) a + 1
      rw [hsv a hne]; omega
    have := enq_all (s.leave1 p) p s.n a ha h3
    rw [hq] at this; cases this

theorem TNet.ask_ok {s : TNet} {p : Int} (h : s.askErr p = 0) : ∃ a : Nat, p = a ∧ a < s.n ∧ s.asks a = false ∧ s.inn a = false ∧ s.had a a < 1000 := by
  unfold TNet.askErr at h
  split at h
  · omega
  rename_i h1
  split at h
  · omega
  rename_i h2
  split at h
  · omega
  rename_i h3
  obtain ⟨a, rfl, ha⟩ := (s.is_iff p).1 (by cases hx : s.is p <;> simp_all)
  rw [Int.toNat_natCast] at h2 h3
  exact ⟨a, rfl, ha, by cases hb : s.asks a <;> simp_all, by cases hb : s.inn a <;> simp_all, by omega⟩

theorem TInv.ask0 {s : TNet} (h : TInv s) {p : Nat} (hp : p < s.n) (ha : s.asks p = false) (hi : s.inn p = false) (ht : s.had p p < 1000) : TInv (s.ask0 p) := by
  have hsrv := h.idle p hp ha hi
  have hnn := h.knw p p hp hp
  have hself : put2 s.had p p (s.had p p + 1) p p = s.had p p + 1 := put2_self _ _ _ _
  have hho : ∀ a b, (a ≠ p ∨ b ≠ p) → put2 s.had p p (s.had p p + 1) a b = s.had a b := fun a b hh => put2_ne _ _ hh
  have hdiag : ∀ a, s.had a a ≤ put2 s.had p p (s.had p p + 1) a a := fun a => by
    by_cases e : a = p
    · subst e; rw [hself]; omega
    · rw [hho a a (.inl e)]; exact Int.le_refl _
  have hknw : ∀ a q, a < s.n → q < s.n → 0 ≤ put2 s.had p p (s.had p p + 1) q a ∧ put2 s.had p p (s.had p p + 1) q a ≤ put2 s.had p p (s.had p p + 1) a a := fun a q ha' hq => by
    have h1 := h.knw a q ha' hq
    by_cases e : q = p ∧ a = p
    · obtain ⟨rfl, rfl⟩ := e; rw [hself]; omega
    · rw [hho q a (by omega)]; exact ⟨h1.1, Int.le_trans h1.2 (hdiag a)⟩
  have htop : ∀ a, a < s.n → put2 s.had p p (s.had p p + 1) a a ≤ 1000 := fun a ha' => by
    by_cases e : a = p
    · subst e; rw [hself]; omega
    · rw [hho a a (.inl e)]; exact h.top a ha'
  unfold TNet.ask0
  by_cases hh : s.holder = p
  · rw [if_pos hh]
    have hin : ∀ a, a ≠ p → put1 s.inn p true a = s.inn a := fun a ha => put1_ne _ _ ha
    exact {
      n1 := h.n1, n4 := h.n4
      hold := .inr ⟨p, hh, hp⟩
      inH := fun a ha' hx => by
        have hx : put1 s.inn p true a = true := hx
        by_cases e : a = p
        · subst e; exact hh
        · rw [hin a e] at hx; exact h.inH a ha' hx
      holdA := h.holdA
      act := fun a ha' hx => by
        have hx : s.asks a = true ∨ put1 s.inn p true a = true := hx
        show put2 s.had p p (s.had p p + 1) a a = s.served a + 1
        by_cases e : a = p
        · subst e; rw [hself, hsrv]
        · rw [hin a e] at hx; rw [hho a a (.inl e)]; exact h.act a ha' hx
      idle := fun a ha' h1 h2 => by
        have h2 : put1 s.inn p true a = false := h2
        show put2 s.had p p (s.had p p + 1) a a = s.served a
        by_cases e : a = p
        · subst e; rw [put1_self] at h2; cases h2
        · rw [hin a e] at h2; rw [hho a a (.inl e)]; exact h.idle a ha' h1 h2
      qnd := h.qnd, que := h.que, self := h.self
      knw := hknw
      msg := fun a q ha' hq m hm => ⟨(h.msg a q ha' hq m hm).1, Int.le_trans (h.msg a q ha' hq m hm).2 (hdiag a)⟩
      sent := fun a q ha' hq hne hx => by
        have hx' : s.asks a = true := hx
        clear hx
        have e : a ≠ p := fun e => by rw [e, ha] at hx'; cases hx'
        show put2 s.had p p (s.had p p + 1) q a = put2 s.had p p (s.had p p + 1) a a ∨ put2 s.had p p (s.had p p + 1) a a ∈ s.ways a q
        rw [hho q a (.inr e), hho a a (.inl e)]; exact h.sent a q ha' hq hne hx'
      srv := h.srv, top := htop
      idleQ := fun a _ hx hy => by
        have hx : s.holder = a := hx
        have hy : put1 s.inn p true a = false := hy
        obtain rfl : a = p := by omega
        rw [put1_self] at hy; cases hy
      idleK := fun a _ _ _ _ hx hy => by
        have hx : s.holder = a := hx
        have hy : put1 s.inn p true a = false := hy
        obtain rfl : a = p := by omega
        rw [put1_self] at hy; cases hy }
  · rw [if_neg hh]
    have has : ∀ a, a ≠ p → put1 s.asks p true a = s.asks a := fun a ha => put1_ne _ _ ha
    have hway : ∀ a b, b < s.n → (({ s.ask1 p with asks := put1 s.asks p true } : TNet).bcast p (s.had p p + 1) s.n).ways a b = if a = p ∧ b ≠ p then s.ways a b ++ [s.had p p + 1] else s.ways a b := fun a b hb => by
      show (if a = p ∧ b < s.n ∧ b ≠ p then s.ways a b ++ [s.had p p + 1] else s.ways a b) = _
      by_cases e : a = p ∧ b ≠ p
      · rw [if_pos e, if_pos ⟨e.1, hb, e.2⟩]
      · rw [if_neg e, if_neg (fun hh => e ⟨hh.1, hh.2.2⟩)]
    have hup : ∀ a, s.asks a = true → put1 s.asks p true a = true := fun a hx => by
      by_cases e : a = p
      · subst e; exact put1_self _ _ _
      · rw [has a e]; exact hx
    exact {
      n1 := h.n1, n4 := h.n4
      hold := by
        rcases h.hold with ⟨h1, k, h2, h3, h4⟩ | h1
        · exact .inl ⟨h1, k, h2, h3, hup k h4⟩
        · exact .inr h1
      inH := h.inH
      holdA := fun a ha' hx => by
        have hx : s.holder = a := hx
        show put1 s.asks p true a = false
        rw [has a (fun e => by subst e; exact hh hx)]; exact h.holdA a ha' hx
      act := fun a ha' hx => by
        have hx : put1 s.asks p true a = true ∨ s.inn a = true := hx
        show put2 s.had p p (s.had p p + 1) a a = s.served a + 1
        by_cases e : a = p
        · subst e; rw [hself, hsrv]
        · rw [has a e] at hx; rw [hho a a (.inl e)]; exact h.act a ha' hx
      idle := fun a ha' h1 h2 => by
        have h1 : put1 s.asks p true a = false := h1
        show put2 s.had p p (s.had p p + 1) a a = s.served a
        by_cases e : a = p
        · subst e; rw [put1_self] at h1; cases h1
        · rw [has a e] at h1; rw [hho a a (.inl e)]; exact h.idle a ha' h1 h2
      qnd := h.qnd
      que := fun x hx => by
        obtain ⟨q, e, hq, hqa, hqt⟩ := h.que x hx
        exact ⟨q, e, hq, hup q hqa, hqt⟩
      self := fun a ha' => by rw [hway a a ha', if_neg (by omega)]; exact h.self a ha'
      knw := hknw
      msg := fun a q ha' hq m hm => by
        rw [hway a q hq] at hm
        show 0 ≤ m ∧ m ≤ put2 s.had p p (s.had p p + 1) a a
        have hm' : m ∈ s.ways a q ∨ (a = p ∧ m = s.had p p + 1) := by
          split at hm
          · rename_i e
            rw [List.mem_append, List.mem_singleton] at hm
            rcases hm with hm | hm
            · exact .inl hm
            · exact .inr ⟨e.1, hm⟩
          · exact .inl hm
        rcases hm' with hm' | ⟨rfl, rfl⟩
        · exact ⟨(h.msg a q ha' hq m hm').1, Int.le_trans (h.msg a q ha' hq m hm').2 (hdiag a)⟩
        · rw [hself]; omega
      sent := fun a q ha' hq hne hx => by
        have hx : put1 s.asks p true a = true := hx
        show put2 s.had p p (s.had p p + 1) q a = put2 s.had p p (s.had p p + 1) a a ∨ put2 s.had p p (s.had p p + 1) a a ∈ (({ s.ask1 p with asks := put1 s.asks p true } : TNet).bcast p (s.had p p + 1) s.n).ways a q
        rw [hway a q hq]
        by_cases e : a = p
        · subst e
          right
          rw [hself, if_pos ⟨rfl, Ne.symm hne⟩]; simp
        · rw [has a e] at hx
          rw [hho q a (.inr e), hho a a (.inl e), if_neg (fun hh => e hh.1)]; exact h.sent a q ha' hq hne hx
      srv := h.srv, top := htop
      idleQ := h.idleQ
      idleK := fun a b ha' hb hne hx hy => by
        have hx : s.holder = a := hx
        show put2 s.had p p (s.had p p + 1) a b ≤ s.served b
        rw [hho a b (.inl (fun e => by subst e; exact hh hx))]
        exact h.idleK a b ha' hb hne hx hy }

theorem TNet.step_ok {s : TNet} {p q : Int} (h : s.stepErr p q = 0) : ∃ a b : Nat, p = a ∧ q = b ∧ a < s.n ∧ b < s.n ∧ ∃ m l, s.ways a b = m :: l := by
  unfold TNet.stepErr at h
  split at h
  · omega
  rename_i h1
  split at h
  · omega
  rename_i h2
  obtain ⟨a, rfl, ha⟩ := (s.is_iff p).1 (by cases hx : s.is p <;> simp_all)
  obtain ⟨b, rfl, hb⟩ := (s.is_iff q).1 (by cases hx : s.is q <;> simp_all)
  rw [Int.toNat_natCast, Int.toNat_natCast] at h2
  cases hl : s.ways a b with
  | nil => exact absurd hl h2
  | cons m l => exact ⟨a, b, rfl, rfl, ha, hb, m, l, hl⟩

theorem TInv.hear {s : TNet} (h : TInv s) {p q : Nat} {m : Int} {l : List Int} (hp : p < s.n) (hq : q < s.n) (hl : s.ways p q = m :: l) : TInv ((s.pop p q).hear p q m) := by
  have hne : p ≠ q := fun e => by subst e; rw [h.self p hp] at hl; cases hl
  have hway : ∀ a b, (s.pop p q).ways a b = if a = p ∧ b = q then l else s.ways a b := fun a b => by
    show put2 s.ways p q (s.ways p q).tail a b = _
    unfold put2; rw [hl, List.tail_cons]
  have hm := h.msg p q hp hq m (by rw [hl]; simp)
  have hk := h.knw p q hp hq
  have hself : put2 s.had q p (max (s.had q p) m) q p = max (s.had q p) m := put2_self _ _ _ _
  have hho : ∀ a b, (a ≠ q ∨ b ≠ p) → put2 s.had q p (max (s.had q p) m) a b = s.had a b := fun a b hh => put2_ne _ _ hh
  have hdiag : ∀ a, put2 s.had q p (max (s.had q p) m) a a = s.had a a := fun a => hho a a (by omega)
  have hsub : ∀ a b x, x ∈ (s.pop p q).ways a b → x ∈ s.ways a b := fun a b x hx => by
    rw [hway a b] at hx
    split at hx
    · rename_i e; obtain ⟨rfl, rfl⟩ := e; rw [hl]; exact List.mem_cons_of_mem _ hx
    · exact hx
  have base : TPre ((s.pop p q).hear1 p q m) := {
    n1 := h.n1, n4 := h.n4, hold := h.hold, inH := h.inH, holdA := h.holdA
    act := fun a ha hx => by
      show put2 s.had q p (max (s.had q p) m) a a = s.served a + 1
      rw [hdiag]; exact h.act a ha hx
    idle := fun a ha h1 h2 => by
      show put2 s.had q p (max (s.had q p) m) a a = s.served a
      rw [hdiag]; exact h.idle a ha h1 h2
    qnd := h.qnd, que := h.que
    self := fun a ha => by
      show (s.pop p q).ways a a = []
      rw [hway, if_neg (by omega)]; exact h.self a ha
    knw := fun a b ha hb => by
      show 0 ≤ put2 s.had q p (max (s.had q p) m) b a ∧ put2 s.had q p (max (s.had q p) m) b a ≤ put2 s.had q p (max (s.had q p) m) a a
      rw [hdiag]
      by_cases e : b = q ∧ a = p
      · obtain ⟨rfl, rfl⟩ := e; rw [hself]; omega
      · rw [hho b a (by omega)]; exact h.knw a b ha hb
    msg := fun a b ha hb x hx => by
      show 0 ≤ x ∧ x ≤ put2 s.had q p (max (s.had q p) m) a a
      rw [hdiag]; exact h.msg a b ha hb x (hsub a b x hx)
    sent := fun a b ha hb hab hx => by
      show put2 s.had q p (max (s.had q p) m) b a = put2 s.had q p (max (s.had q p) m) a a ∨ put2 s.had q p (max (s.had q p) m) a a ∈ (s.pop p q).ways a b
      rw [hdiag]
      have h1 := h.sent a b ha hb hab hx
      by_cases e : a = p ∧ b = q
      · obtain ⟨rfl, rfl⟩ := e
        rw [hself, hway, if_pos ⟨rfl, rfl⟩]
        rw [hl, List.mem_cons] at h1
        rcases h1 with h1 | h1 | h1
        · left; omega
        · left; omega
        · right; exact h1
      · rw [hho b a (by omega), hway, if_neg e]; exact h1
    srv := h.srv
    top := fun a ha => by
      show put2 s.had q p (max (s.had q p) m) a a ≤ 1000
      rw [hdiag]; exact h.top a ha }
  have hact : s.had p p ≤ s.served p + 1 := by
    by_cases hx : s.asks p = true ∨ s.inn p = true
    · have := h.act p hp hx; omega
    · have ha1 : s.asks p = false := by
        cases hb : s.asks p with
        | false => rfl
        | true => exact absurd (.inl hb) hx
      have ha2 : s.inn p = false := by
        cases hb : s.inn p with
        | false => rfl
        | true => exact absurd (.inr hb) hx
      have := h.idle p hp ha1 ha2; omega
  unfold TNet.hear
  by_cases hc : (s.pop p q).holder = q ∧ (s.pop p q).inn q = false ∧ max ((s.pop p q).had q p) m = (s.pop p q).served p + 1
  · rw [if_pos hc]
    obtain ⟨hc1, hc2, hc3⟩ := hc
    have hc1 : s.holder = q := hc1
    have hc2 : s.inn q = false := hc2
    have hc3 : max (s.had q p) m = s.served p + 1 := hc3
    have hqe := h.idleQ q hq hc1 hc2
    have hap : s.asks p = true := by
      cases ha : s.asks p with
      | true => rfl
      | false =>
        have h4 : s.inn p = false := by
          cases h5 : s.inn p with
          | false => rfl
          | true => have := h.inH p hp h5; omega
        have := h.idle p hp ha h4; omega
    refine TPre.give (k := q) ?_ hq hc1 hc2 (fun hx => ?_)
    · exact { base with
        qnd := by
          show (s.queue ++ [(p : Int)]).Nodup
          rw [hqe]; simp
        que := fun x hx => by
          have hx : x ∈ s.queue ++ [(p : Int)] := hx
          rw [hqe, List.nil_append, List.mem_singleton] at hx
          exact ⟨p, hx, hp, hap, fun e => by have e : s.holder = -1 := e; omega⟩ }
    · have hx : s.queue ++ [(p : Int)] = [] := hx
      simp at hx
  · rw [if_neg hc]
    exact { toTPre := base
            idleQ := h.idleQ
            idleK := fun a b ha hb hab hx hy => by
              have hx : s.holder = a := hx
              have hy : s.inn a = false := hy
              show put2 s.had q p (max (s.had q p) m) a b ≤ s.served b
              by_cases e : a = q ∧ b = p
              · obtain ⟨rfl, rfl⟩ := e
                rw [hself]
                have h1 : max (s.had a b) m ≠ s.served b + 1 := fun h1 => hc ⟨hx, hy, h1⟩
                omega
              · rw [hho a b (by omega)]; exact h.idleK a b ha hb hab hx hy }

theorem TInv.bring0 {s : TNet} (h : TInv s) (hh : s.holder < 0) : TInv s.bring0 := by
  obtain ⟨h1, k, h2, h3, h4⟩ : s.holder = -1 ∧ ∃ k : Nat, s.target = k ∧ k < s.n ∧ s.asks k = true := by
    rcases h.hold with h1 | ⟨k, h1, _⟩
    · exact h1
    · omega
  have hno : ∀ p, p < s.n → s.inn p = false := fun p hp => by
    cases hx : s.inn p with
    | false => rfl
    | true => have := h.inH p hp hx; omega
  have e1 : s.bring0 = { s with holder := k, asks := put1 s.asks k false, inn := put1 s.inn k true } := by
    unfold TNet.bring0; rw [h2, Int.toNat_natCast]
  rw [e1]
  have has : ∀ a, a ≠ k → put1 s.asks k false a = s.asks a := fun a ha => put1_ne _ _ ha
  have hin : ∀ a, a ≠ k → put1 s.inn k true a = s.inn a := fun a ha => put1_ne _ _ ha
  exact {
    n1 := h.n1, n4 := h.n4
    hold := .inr ⟨k, rfl, h3⟩
    inH := fun a ha hx => by
      have hx : put1 s.inn k true a = true := hx
      show (k : Int) = a
      by_cases e : a = k
      · rw [e]
      · rw [hin a e, hno a ha] at hx; cases hx
    holdA := fun a ha hx => by
      have hx : (k : Int) = a := hx
      obtain rfl : k = a := by omega
      exact put1_self _ _ _
    act := fun a ha hx => by
      have hx : put1 s.asks k false a = true ∨ put1 s.inn k true a = true := hx
      by_cases e : a = k
      · subst e; exact h.act a ha (.inl h4)
      · rw [has a e, hin a e] at hx; exact h.act a ha hx
    idle := fun a ha h5 h6 => by
      have h5 : put1 s.asks k false a = false := h5
      have h6 : put1 s.inn k true a = false := h6
      by_cases e : a = k
      · subst e; rw [put1_self] at h6; cases h6
      · rw [has a e] at h5; rw [hin a e] at h6; exact h.idle a ha h5 h6
    qnd := h.qnd
    que := fun x hx => by
      obtain ⟨q, e, hq, hqa, hqt⟩ := h.que x hx
      have hqk : q ≠ k := fun e' => hqt h1 (by rw [h2, e'])
      exact ⟨q, e, hq, by show put1 s.asks k false q = true; rw [has q hqk]; exact hqa, fun e' => by have e' : (k : Int) = -1 := e'; omega⟩
    self := h.self, knw := h.knw, msg := h.msg
    sent := fun a b ha hb hab hx => by
      have hx : put1 s.asks k false a = true := hx
      by_cases e : a = k
      · subst e; rw [put1_self] at hx; cases hx
      · rw [has a e] at hx; exact h.sent a b ha hb hab hx
    srv := h.srv, top := h.top
    idleQ := fun a _ hx hy => by
      have hx : (k : Int) = a := hx
      have hy : put1 s.inn k true a = false := hy
      obtain rfl : k = a := by omega
      rw [put1_self] at hy; cases hy
    idleK := fun a _ _ _ _ hx hy => by
      have hx : (k : Int) = a := hx
      have hy : put1 s.inn k true a = false := hy
      obtain rfl : k = a := by omega
      rw [put1_self] at hy; cases hy }

end Go.Proofs.YthblnljjhbdejaaDoor
