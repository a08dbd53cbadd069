/-
  The lock for which one asks all others, plain: what asking, leaving and stepping do.
  Conditions: none beyond those of each lemma.
-/
import Derived.Test.YtmkjfiopkmcjcaaDoorSum
import Derived.Test.YtmkjfiopkmcjcaaDoorBit
namespace Go.Proofs.YtmkjfiopkmcjcaaDoor


theorem bit_zero (q : Nat) : bitB 0 q = false := by unfold bitB; simp
theorem bit_or : ∀ x : Nat, x < 16 → ∀ k : Nat, k < 4 → ∀ q : Nat, q < 4 → bitB (x ||| 2 ^ k) q = (decide (q = k) || bitB x q) := by decide +kernel
def othersN (n p : Nat) : Nat := if 2 ^ n - 1 < 2 ^ p then 2 ^ n - 1 else if bitB (2 ^ n - 1) p then 2 ^ n - 1 - 2 ^ p else 2 ^ n - 1
theorem others_bits : ∀ n : Nat, n < 5 → ∀ p : Nat, p < n → ∀ x : Nat, x < 2 ^ n → (x = othersN n p ↔ ∀ q, q < n → bitB x q = decide (q ≠ p)) := by decide +kernel

structure GNet where
  n : Nat
  st : Nat → Int
  ck : Nat → Int
  tm : Nat → Int
  gr : Nat → Nat
  wt : Nat → Nat
  ways : Nat → Nat → List Int

def GNet.init (n : Nat) : GNet := ⟨n, fun _ => 0, fun _ => 0, fun _ => 0, fun _ => 0, fun _ => 0, fun _ _ => []⟩
def GNet.is (s : GNet) (p : Int) : Bool := decide (0 ≤ p) && decide (p ≤ (s.n : Int) - 1)
def GNet.push (s : GNet) (p q : Nat) (m : Int) : GNet := { s with ways := put2 s.ways p q (s.ways p q ++ [m]) }
def GNet.pop (s : GNet) (p q : Nat) : GNet := { s with ways := put2 s.ways p q (s.ways p q).tail }
/-- From p to the first j of those of C. -/
def GNet.bcast (s : GNet) (p : Nat) (m : Int) (C : Nat → Bool) (j : Nat) : GNet := { s with ways := fun a b => if a = p ∧ b < j ∧ C b = true then s.ways a b ++ [m] else s.ways a b }
def GNet.enter (s : GNet) (p : Nat) : GNet := if s.st p = 1 ∧ s.gr p = othersN s.n p then { s with st := put1 s.st p 2 } else s

def GNet.askErr (s : GNet) (p : Int) : Int := if s.is p = false then 1 else if s.st p.toNat ≠ 0 then 7 else if 1000 ≤ s.ck p.toNat then 4 else 0
def GNet.ask1 (s : GNet) (p : Nat) : GNet := { s with ck := put1 s.ck p (s.ck p + 1), st := put1 s.st p 1, tm := put1 s.tm p (s.ck p + 1), gr := put1 s.gr p 0 }
def GNet.ask0 (s : GNet) (p : Nat) : GNet := ((s.ask1 p).bcast p (s.ck p + 1) (fun b => decide (b ≠ p)) s.n).enter p
def GNet.ask (s : GNet) (p : Int) : GNet := if s.askErr p = 0 then s.ask0 p.toNat else s

def GNet.leaveErr (s : GNet) (p : Int) : Int := if s.is p = false then 1 else if s.st p.toNat ≠ 2 then 7 else 0
def GNet.leave1 (s : GNet) (p : Nat) : GNet := { s with st := put1 s.st p 0 }
def GNet.leave0 (s : GNet) (p : Nat) : GNet := { (s.leave1 p).bcast p 0 (bitB (s.wt p)) s.n with wt := put1 s.wt p 0 }
def GNet.leave (s : GNet) (p : Int) : GNet := if s.leaveErr p = 0 then s.leave0 p.toNat else s

def GNet.stepErr (s : GNet) (p q : Int) : Int := if s.is p = false ∨ s.is q = false then 1 else if s.ways p.toNat q.toNat = [] then 5 else 0
def GNet.mine (s : GNet) (q p : Nat) (m : Int) : Prop := s.tm q < m ∨ (s.tm q = m ∧ q < p)
instance (s : GNet) (q p : Nat) (m : Int) : Decidable (s.mine q p m) := by unfold GNet.mine; infer_instance
/-- What came from p at q is m. -/
def GNet.hear (s : GNet) (p q : Nat) (m : Int) : GNet :=
  if m = 0 then ({ s with gr := put1 s.gr q (s.gr q ||| 2 ^ p) }).enter q
  else if s.st q = 2 ∨ (s.st q = 1 ∧ s.mine q p m) then { s with ck := put1 s.ck q (max (s.ck q) m), wt := put1 s.wt q (s.wt q ||| 2 ^ p) }
  else ({ s with ck := put1 s.ck q (max (s.ck q) m) }).push q p 0
def GNet.step (s : GNet) (p q : Int) : GNet := if s.stepErr p q = 0 then (s.pop p.toNat q.toNat).hear p.toNat q.toNat ((s.ways p.toNat q.toNat).headD 0) else s

/-! ### Counting -/
def req (l : List Int) : Int := (l.filter (fun x => decide (x ≠ 0))).length
def zer (l : List Int) : Int := (l.filter (fun x => decide (x = 0))).length
theorem req_nil : req [] = 0 := rfl
theorem zer_nil : zer [] = 0 := rfl
theorem req_cons (x : Int) (l : List Int) : req (x :: l) = req l + (if x = 0 then 0 else 1) := by
  unfold req; by_cases h : x = 0 <;> simp [h]
theorem zer_cons (x : Int) (l : List Int) : zer (x :: l) = zer l + (if x = 0 then 1 else 0) := by
  unfold zer; by_cases h : x = 0 <;> simp [h]
theorem req_app (x : Int) (l : List Int) : req (l ++ [x]) = req l + (if x = 0 then 0 else 1) := by
  unfold req; by_cases h : x = 0 <;> simp [h]
theorem zer_app (x : Int) (l : List Int) : zer (l ++ [x]) = zer l + (if x = 0 then 1 else 0) := by
  unfold zer; by_cases h : x = 0 <;> simp [h]
theorem req_nonneg (l : List Int) : 0 ≤ req l := by unfold req; omega
theorem zer_nonneg (l : List Int) : 0 ≤ zer l := by unfold zer; omega
theorem req_zer (l : List Int) : (l.length : Int) = req l + zer l := by
  induction l with
  | nil => rfl
  | cons x l ih => rw [req_cons, zer_cons, List.length_cons]; push_cast; split <;> omega
theorem req_zero {l : List Int} (h : req l = 0) : ∀ m ∈ l, m = 0 := by
  induction l with
  | nil => intro m hm; cases hm
  | cons x l ih =>
    rw [req_cons] at h
    have := req_nonneg l
    intro m hm
    by_cases hx : x = 0
    · rw [if_pos hx] at h
      rcases List.mem_cons.1 hm with rfl | hm
      · exact hx
      · exact ih (by omega) m hm
    · rw [if_neg hx] at h; omega

def bI (x q : Nat) : Int := if bitB x q = true then 1 else 0
theorem bI_nonneg (x q : Nat) : 0 ≤ bI x q := by unfold bI; split <;> omega
theorem bI_le (x q : Nat) : bI x q ≤ 1 := by unfold bI; split <;> omega
theorem bI_zero (q : Nat) : bI 0 q = 0 := by unfold bI; rw [bit_zero]; rfl
theorem bI_or {x k q : Nat} (hx : x < 16) (hk : k < 4) (hq : q < 4) : bI (x ||| 2 ^ k) q = if q = k then 1 else bI x q := by
  unfold bI; rw [bit_or x hx k hk q hq]
  by_cases h : q = k <;> simp [h]
theorem bI_one {x q : Nat} (h : bI x q = 1) : bitB x q = true := by
  unfold bI at h
  cases hb : bitB x q with
  | true => rfl
  | false => rw [hb] at h; simp at h
theorem bI_not {x q : Nat} (h : bI x q = 0) : bitB x q = false := by
  unfold bI at h
  cases hb : bitB x q with
  | false => rfl
  | true => rw [hb] at h; simp at h

/-- Who asked ahead of whom. -/
def tlt (s : GNet) (a b : Nat) : Prop := s.tm a < s.tm b ∨ (s.tm a = s.tm b ∧ a < b)

/-- What one asks of another one, and where it is. -/
def tot (s : GNet) (p q : Nat) : Int := req (s.ways p q) + zer (s.ways q p) + bI (s.wt q) p

structure GInv (s : GNet) : Prop where
  n1 : 1 ≤ s.n
  n4 : s.n ≤ 4
  st3 : ∀ p, p < s.n → s.st p = 0 ∨ s.st p = 1 ∨ s.st p = 2
  selfW : ∀ p, p < s.n → s.ways p p = []
  selfG : ∀ p, p < s.n → bI (s.gr p) p = 0
  selfT : ∀ p, p < s.n → bI (s.wt p) p = 0
  grB : ∀ p, p < s.n → s.gr p < 2 ^ s.n
  wtB : ∀ p, p < s.n → s.wt p < 2 ^ s.n
  msg : ∀ p q, p < s.n → q < s.n → ∀ m ∈ s.ways p q, m = 0 ∨ (m = s.tm p ∧ s.st p = 1)
  out : ∀ p q, p < s.n → q < s.n → p ≠ q → s.st p = 0 → tot s p q = 0
  one : ∀ p q, p < s.n → q < s.n → p ≠ q → s.st p ≠ 0 → tot s p q + bI (s.gr p) q = 1
  inn : ∀ p q, p < s.n → q < s.n → p ≠ q → s.st p = 2 → bI (s.gr p) q = 1
  ask : ∀ p, p < s.n → s.st p = 1 → ∃ q, q < s.n ∧ q ≠ p ∧ bI (s.gr p) q = 0
  wait : ∀ p q, p < s.n → q < s.n → bI (s.wt q) p = 1 → s.tm p ≤ s.ck q ∧ (s.st q = 2 ∨ (s.st q = 1 ∧ tlt s q p))
  gran : ∀ p q, p < s.n → q < s.n → p ≠ q → s.st p ≠ 0 → (bI (s.gr p) q = 1 ∨ 0 < zer (s.ways q p)) → s.tm p ≤ s.ck q ∧ s.st q ≠ 2 ∧ (s.st q = 1 → tlt s p q)
  pos : ∀ p, p < s.n → (s.st p ≠ 0 → 1 ≤ s.tm p) ∧ 0 ≤ s.tm p ∧ s.tm p ≤ s.ck p

theorem tot_nonneg (s : GNet) (p q : Nat) : 0 ≤ tot s p q := by
  unfold tot
  have := req_nonneg (s.ways p q)
  have := zer_nonneg (s.ways q p)
  have := bI_nonneg (s.wt q) p
  omega

theorem GInv.start {n : Nat} (h1 : 1 ≤ n) (h4 : n ≤ 4) : GInv (GNet.init n) where
  n1 := h1
  n4 := h4
  st3 := fun _ _ => .inl rfl
  selfW := fun _ _ => rfl
  selfG := fun _ _ => bI_zero _
  selfT := fun _ _ => bI_zero _
  grB := fun _ _ => Nat.pow_pos (by omega)
  wtB := fun _ _ => Nat.pow_pos (by omega)
  msg := fun _ _ _ _ m hm => by cases hm
  out := fun p q _ _ _ _ => by
    show req [] + zer [] + bI 0 p = 0
    rw [bI_zero]; rfl
  one := fun _ _ _ _ _ h => absurd rfl h
  inn := fun p _ _ _ _ h => by
    have h : (0 : Int) = 2 := h
    omega
  ask := fun p _ h => by
    have h : (0 : Int) = 1 := h
    omega
  wait := fun p q _ _ h => by
    have h : bI 0 p = 1 := h
    rw [bI_zero] at h; omega
  gran := fun _ _ _ _ _ h => absurd rfl h
  pos := fun _ _ => ⟨fun h => absurd rfl h, Int.le_refl 0, Int.le_refl 0⟩

/-- One at most is in. -/
theorem GInv.single {s : GNet} (h : GInv s) {p q : Nat} (hp : p < s.n) (hq : q < s.n) (hne : p ≠ q) (h1 : s.st p = 2) : s.st q ≠ 2 :=
  (h.gran p q hp hq hne (by omega) (.inl (h.inn p q hp hq hne h1))).2.1

/-- Who is in asked ahead of who asks. -/
theorem GInv.first {s : GNet} (h : GInv s) {p q : Nat} (hp : p < s.n) (hq : q < s.n) (hne : p ≠ q) (h1 : s.st p = 2) (h2 : s.st q = 1) : tlt s p q :=
  (h.gran p q hp hq hne (by omega) (.inl (h.inn p q hp hq hne h1))).2.2 h2

theorem GInv.sub {s : GNet} (h : GInv s) : 2 ^ s.n ≤ 16 := by
  have := Nat.pow_le_pow_right (n := 2) (by omega) h.n4
  exact this

/-- What stays true while node q has not looked yet whether it may come in. -/
structure GPre (q : Nat) (s : GNet) : Prop where
  hq : q < s.n
  asks : s.st q = 1
  n1 : 1 ≤ s.n
  n4 : s.n ≤ 4
  st3 : ∀ p, p < s.n → s.st p = 0 ∨ s.st p = 1 ∨ s.st p = 2
  selfW : ∀ p, p < s.n → s.ways p p = []
  selfG : ∀ p, p < s.n → bI (s.gr p) p = 0
  selfT : ∀ p, p < s.n → bI (s.wt p) p = 0
  grB : ∀ p, p < s.n → s.gr p < 2 ^ s.n
  wtB : ∀ p, p < s.n → s.wt p < 2 ^ s.n
  msg : ∀ p q, p < s.n → q < s.n → ∀ m ∈ s.ways p q, m = 0 ∨ (m = s.tm p ∧ s.st p = 1)
  out : ∀ p q, p < s.n → q < s.n → p ≠ q → s.st p = 0 → tot s p q = 0
  one : ∀ p q, p < s.n → q < s.n → p ≠ q → s.st p ≠ 0 → tot s p q + bI (s.gr p) q = 1
  inn : ∀ p q, p < s.n → q < s.n → p ≠ q → s.st p = 2 → bI (s.gr p) q = 1
  ask : ∀ p, p < s.n → p ≠ q → s.st p = 1 → ∃ q, q < s.n ∧ q ≠ p ∧ bI (s.gr p) q = 0
  wait : ∀ p q, p < s.n → q < s.n → bI (s.wt q) p = 1 → s.tm p ≤ s.ck q ∧ (s.st q = 2 ∨ (s.st q = 1 ∧ tlt s q p))
  gran : ∀ p q, p < s.n → q < s.n → p ≠ q → s.st p ≠ 0 → (bI (s.gr p) q = 1 ∨ 0 < zer (s.ways q p)) → s.tm p ≤ s.ck q ∧ s.st q ≠ 2 ∧ (s.st q = 1 → tlt s p q)
  pos : ∀ p, p < s.n → (s.st p ≠ 0 → 1 ≤ s.tm p) ∧ 0 ≤ s.tm p ∧ s.tm p ≤ s.ck p

theorem all_bits {s : GNet} {p : Nat} (h4 : s.n ≤ 4) (hp : p < s.n) (hB : s.gr p < 2 ^ s.n) (hS : bI (s.gr p) p = 0) : s.gr p = othersN s.n p ↔ ∀ q, q < s.n → q ≠ p → bI (s.gr p) q = 1 := by
  rw [others_bits s.n (by omega) p hp (s.gr p) hB]
  constructor
  · intro h q hq hne
    have := h q hq
    rw [decide_eq_true hne] at this
    unfold bI; rw [this]; rfl
  · intro h q hq
    by_cases e : q = p
    · subst e; rw [decide_eq_false (by simp)]; exact bI_not hS
    · rw [decide_eq_true e]; exact bI_one (h q hq e)

theorem GPre.enter {q : Nat} {s : GNet} (h : GPre q s) : GInv (s.enter q) := by
  have hab := all_bits h.n4 h.hq (h.grB q h.hq) (h.selfG q h.hq)
  unfold GNet.enter
  by_cases he : s.gr q = othersN s.n q
  · rw [if_pos ⟨h.asks, he⟩]
    have hall := hab.1 he
    have key : ∀ p, p < s.n → p ≠ q → s.st p ≠ 0 → ¬ (bI (s.gr p) q = 1 ∨ 0 < zer (s.ways q p)) := fun p hp hne h0 hg => by
      have h1 := (h.gran p q hp h.hq hne h0 hg).2.2 h.asks
      have h2 := h.gran q p h.hq hp (Ne.symm hne) (by rw [h.asks]; omega) (.inl (hall p hp hne))
      have h3 : s.st p = 1 := by
        rcases h.st3 p hp with h' | h' | h'
        · exact absurd h' h0
        · exact h'
        · exact absurd h' h2.2.1
      have h4 := h2.2.2 h3
      unfold tlt at h1 h4
      omega
    have hst : ∀ p, p ≠ q → put1 s.st q 2 p = s.st p := fun p hne => put1_ne _ _ hne
    have hreq : ∀ b, b < s.n → req (s.ways q b) = 0 := fun b hb => by
      by_cases e : b = q
      · subst e; rw [h.selfW b hb]; rfl
      · have h1 := h.one q b h.hq hb (Ne.symm e) (by rw [h.asks]; omega)
        rw [hall b hb e] at h1
        have h2 : tot s q b = 0 := by omega
        unfold tot at h2
        have := req_nonneg (s.ways q b)
        have := zer_nonneg (s.ways b q)
        have := bI_nonneg (s.wt b) q
        omega
    exact {
      n1 := h.n1, n4 := h.n4
      st3 := fun p hp => by
        show put1 s.st q 2 p = 0 ∨ put1 s.st q 2 p = 1 ∨ put1 s.st q 2 p = 2
        by_cases e : p = q
        · subst e; rw [put1_self]; omega
        · rw [hst p e]; exact h.st3 p hp
      selfW := h.selfW, selfG := h.selfG, selfT := h.selfT, grB := h.grB, wtB := h.wtB
      msg := fun a b ha hb m hm => by
        show m = 0 ∨ (m = s.tm a ∧ put1 s.st q 2 a = 1)
        by_cases e : a = q
        · subst e; exact .inl (req_zero (hreq b hb) m hm)
        · rw [hst a e]; exact h.msg a b ha hb m hm
      out := fun a b ha hb hne h0 => by
        have h0 : put1 s.st q 2 a = 0 := h0
        by_cases e : a = q
        · subst e; rw [put1_self] at h0; omega
        · rw [hst a e] at h0; exact h.out a b ha hb hne h0
      one := fun a b ha hb hne h0 => by
        have h0 : put1 s.st q 2 a ≠ 0 := h0
        by_cases e : a = q
        · subst e; exact h.one a b ha hb hne (by rw [h.asks]; omega)
        · rw [hst a e] at h0; exact h.one a b ha hb hne h0
      inn := fun a b ha hb hne h0 => by
        have h0 : put1 s.st q 2 a = 2 := h0
        by_cases e : a = q
        · subst e; exact hall b hb (Ne.symm hne)
        · rw [hst a e] at h0; exact h.inn a b ha hb hne h0
      ask := fun a ha h0 => by
        have h0 : put1 s.st q 2 a = 1 := h0
        by_cases e : a = q
        · subst e; rw [put1_self] at h0; omega
        · rw [hst a e] at h0; exact h.ask a ha e h0
      wait := fun a b ha hb hw => by
        obtain ⟨h1, h2⟩ := h.wait a b ha hb hw
        refine ⟨h1, ?_⟩
        show put1 s.st q 2 b = 2 ∨ (put1 s.st q 2 b = 1 ∧ tlt s b a)
        by_cases e : b = q
        · subst e; left; rw [put1_self]
        · rw [hst b e]; exact h2
      gran := fun a b ha hb hne h0 hg => by
        have h0 : put1 s.st q 2 a ≠ 0 := h0
        show s.tm a ≤ s.ck b ∧ put1 s.st q 2 b ≠ 2 ∧ (put1 s.st q 2 b = 1 → tlt s a b)
        have h0' : s.st a ≠ 0 := by
          by_cases e : a = q
          · subst e; rw [h.asks]; omega
          · rw [hst a e] at h0; exact h0
        obtain ⟨h1, h2, h3⟩ := h.gran a b ha hb hne h0' hg
        by_cases e : b = q
        · subst e; exact absurd hg (key a ha hne h0')
        · rw [hst b e]; exact ⟨h1, h2, h3⟩
      pos := fun a ha => by
        obtain ⟨h1, h2, h3⟩ := h.pos a ha
        refine ⟨fun h0 => h1 ?_, h2, h3⟩
        by_cases e : a = q
        · subst e; rw [h.asks]; omega
        · have h0 : put1 s.st q 2 a ≠ 0 := h0
          rw [hst a e] at h0; exact h0 }
  · rw [if_neg (fun hh => he hh.2)]
    exact {
      n1 := h.n1, n4 := h.n4, st3 := h.st3, selfW := h.selfW, selfG := h.selfG, selfT := h.selfT, grB := h.grB, wtB := h.wtB, msg := h.msg, out := h.out, one := h.one, inn := h.inn
      ask := fun a ha h0 => by
        by_cases e : a = q
        · subst e
          refine Classical.byContradiction fun hn => he (hab.2 fun b hb hne => ?_)
          refine Classical.byContradiction fun hb1 => hn ⟨b, hb, hne, ?_⟩
          have := bI_nonneg (s.gr a) b
          have := bI_le (s.gr a) b
          omega
        · exact h.ask a ha e h0
      wait := h.wait, gran := h.gran, pos := h.pos }

theorem GNet.is_iff (s : GNet) (p : Int) : s.is p = true ↔ ∃ k : Nat, p = k ∧ k < s.n := by
  unfold GNet.is
  rw [Bool.and_eq_true, decide_eq_true_eq, decide_eq_true_eq]
  constructor
  · rintro ⟨h1, h2⟩; exact ⟨p.toNat, by omega, by omega⟩
  · rintro ⟨k, rfl, hk⟩; omega

end Go.Proofs.YtmkjfiopkmcjcaaDoor
