/-
  The net of work and thanks, plain: what giving, stopping and stepping do, and what stays true.
  Conditions: none beyond those of each lemma.
-/
import Derived.Test.YtbckjmbhipofaaaDoorSum
namespace Go.Proofs.YtbckjmbhipofaaaDoor

structure CNet where
  n : Nat
  works : Nat → Bool
  parent : Nat → Int
  owed : Nat → Int
  ways : Nat → Nat → List Int
  sent : Int
  calm : Bool

def CNet.init (n : Nat) : CNet := ⟨n, fun p => decide (p = 0), fun p => if p = 0 then 0 else -1, fun _ => 0, fun _ _ => [], 0, false⟩

def CNet.is (s : CNet) (p : Int) : Bool := decide (0 ≤ p) && decide (p ≤ (s.n : Int) - 1)

def CNet.push (s : CNet) (p q : Nat) (m : Int) : CNet := { s with ways := put2 s.ways p q (s.ways p q ++ [m]) }
def CNet.pop (s : CNet) (p q : Nat) : CNet := { s with ways := put2 s.ways p q (s.ways p q).tail }

def CNet.giveErr (s : CNet) (p q : Int) : Int :=
  if s.is p = false ∨ s.is q = false then 1 else if p = q then 6 else if s.works p.toNat = false then 7 else if s.sent = 20 then 4 else 0

def CNet.give0 (s : CNet) (p q : Nat) : CNet := ({ s with sent := s.sent + 1, owed := put1 s.owed p (s.owed p + 1) }).push p q 1
def CNet.give (s : CNet) (p q : Int) : CNet := if s.giveErr p q = 0 then s.give0 p.toNat q.toNat else s

def CNet.rest (s : CNet) (p : Nat) : CNet :=
  if s.works p = true then s else if 0 < s.owed p then s else if s.parent p < 0 then s
  else if p = 0 then { s with calm := true } else { s.push p (s.parent p).toNat 2 with parent := put1 s.parent p (-1) }

def CNet.stopErr (s : CNet) (p : Int) : Int := if s.is p = false then 1 else if s.works p.toNat = false then 7 else 0
def CNet.stop0 (s : CNet) (p : Nat) : CNet := ({ s with works := put1 s.works p false }).rest p
def CNet.stop (s : CNet) (p : Int) : CNet := if s.stopErr p = 0 then s.stop0 p.toNat else s

def CNet.stepErr (s : CNet) (p q : Int) : Int := if s.is p = false ∨ s.is q = false then 1 else if s.ways p.toNat q.toNat = [] then 5 else 0
/-- What came from p at q is m. -/
def CNet.hear (s : CNet) (p q : Nat) (m : Int) : CNet :=
  if m = 2 then ({ s with owed := put1 s.owed q (s.owed q - 1) }).rest q
  else if s.parent q < 0 then { s with parent := put1 s.parent q p, works := put1 s.works q true }
  else ({ s with works := put1 s.works q true }).push q p 2
def CNet.step (s : CNet) (p q : Int) : CNet := if s.stepErr p q = 0 then (s.pop p.toNat q.toNat).hear p.toNat q.toNat ((s.ways p.toNat q.toNat).headD 0) else s

/-! ### What is owed -/
def cnt (m : Int) (l : List Int) : Int := (l.filter (fun x => decide (x = m))).length
theorem cnt_nil (m : Int) : cnt m [] = 0 := rfl
theorem cnt_cons (m x : Int) (l : List Int) : cnt m (x :: l) = cnt m l + (if x = m then 1 else 0) := by
  unfold cnt
  by_cases h : x = m <;> simp [h]
theorem cnt_app (m x : Int) (l : List Int) : cnt m (l ++ [x]) = cnt m l + (if x = m then 1 else 0) := by
  unfold cnt
  by_cases h : x = m <;> simp [h]
theorem cnt_nonneg (m : Int) (l : List Int) : 0 ≤ cnt m l := by unfold cnt; omega

/-- Does q count p as who woke it? -/
def ch (s : CNet) (q p : Nat) : Int := if q ≠ 0 ∧ s.parent q = p then 1 else 0
theorem ch_nonneg (s : CNet) (q p : Nat) : 0 ≤ ch s q p := by unfold ch; split <;> omega

/-- How many messages of p were not thanked for. -/
def dues (s : CNet) (p : Nat) : Int := sumN s.n (fun q => cnt 1 (s.ways p q)) + sumN s.n (fun q => cnt 2 (s.ways q p)) + sumN s.n (fun q => ch s q p)

def one (a b : Nat) : Int := if a = b then 1 else 0

theorem sum_put2_row {n : Nat} (f : List Int → Int) (W : Nat → Nat → List Int) (p q : Nat) (l : List Int) (hq : q < n) (x : Nat) :
    sumN n (fun b => f (put2 W p q l x b)) = sumN n (fun b => f (W x b)) + one p x * (f l - f (W p q)) := by
  by_cases e : p = x
  · subst e
    rw [sum_upd (f := fun b => f (W p b)) (p := q) hq (fun j _ hj => by rw [put2_ne _ _ (.inr hj)])]
    simp [one, put2_self]
  · rw [sum_congr (g := fun b => f (W x b)) (fun j _ => by rw [put2_ne _ _ (.inl (Ne.symm e))])]
    simp [one, e]

theorem sum_put2_col {n : Nat} (f : List Int → Int) (W : Nat → Nat → List Int) (p q : Nat) (l : List Int) (hp : p < n) (x : Nat) :
    sumN n (fun a => f (put2 W p q l a x)) = sumN n (fun a => f (W a x)) + one q x * (f l - f (W p q)) := by
  by_cases e : q = x
  · subst e
    rw [sum_upd (f := fun a => f (W a q)) (p := p) hp (fun j _ hj => by rw [put2_ne _ _ (.inl hj)])]
    simp [one, put2_self]
  · rw [sum_congr (g := fun a => f (W a x)) (fun j _ => by rw [put2_ne _ _ (.inr (Ne.symm e))])]
    simp [one, e]

theorem dues_push1 (s : CNet) {p q : Nat} (hp : p < s.n) (hq : q < s.n) (x : Nat) : dues (s.push p q 1) x = dues s x + one p x := by
  unfold dues
  have h1 := sum_put2_row (n := s.n) (cnt 1) s.ways p q (s.ways p q ++ [1]) hq x
  have h2 := sum_put2_col (n := s.n) (cnt 2) s.ways p q (s.ways p q ++ [1]) hp x
  rw [cnt_app] at h1 h2
  rw [show cnt 1 (s.ways p q) + (if (1 : Int) = 1 then 1 else 0) - cnt 1 (s.ways p q) = 1 by simp; omega, Int.mul_one] at h1
  rw [show cnt 2 (s.ways p q) + (if (1 : Int) = 2 then 1 else 0) - cnt 2 (s.ways p q) = 0 by simp, Int.mul_zero] at h2
  show sumN s.n (fun b => cnt 1 (put2 s.ways p q _ x b)) + sumN s.n (fun a => cnt 2 (put2 s.ways p q _ a x)) + sumN s.n (fun a => ch s a x) = _
  omega

theorem dues_push2 (s : CNet) {p q : Nat} (hp : p < s.n) (hq : q < s.n) (x : Nat) : dues (s.push p q 2) x = dues s x + one q x := by
  unfold dues
  have h1 := sum_put2_row (n := s.n) (cnt 1) s.ways p q (s.ways p q ++ [2]) hq x
  have h2 := sum_put2_col (n := s.n) (cnt 2) s.ways p q (s.ways p q ++ [2]) hp x
  rw [cnt_app] at h1 h2
  rw [show cnt 1 (s.ways p q) + (if (2 : Int) = 1 then 1 else 0) - cnt 1 (s.ways p q) = 0 by simp, Int.mul_zero] at h1
  rw [show cnt 2 (s.ways p q) + (if (2 : Int) = 2 then 1 else 0) - cnt 2 (s.ways p q) = 1 by simp; omega, Int.mul_one] at h2
  show sumN s.n (fun b => cnt 1 (put2 s.ways p q _ x b)) + sumN s.n (fun a => cnt 2 (put2 s.ways p q _ a x)) + sumN s.n (fun a => ch s a x) = _
  omega

theorem dues_pop (s : CNet) {p q : Nat} {m : Int} {l : List Int} (hp : p < s.n) (hq : q < s.n) (h : s.ways p q = m :: l) (x : Nat) :
    dues (s.pop p q) x = dues s x - (if m = 1 then one p x else 0) - (if m = 2 then one q x else 0) := by
  unfold dues
  have h1 := sum_put2_row (n := s.n) (cnt 1) s.ways p q (s.ways p q).tail hq x
  have h2 := sum_put2_col (n := s.n) (cnt 2) s.ways p q (s.ways p q).tail hp x
  rw [h, List.tail_cons, cnt_cons] at h1 h2
  show sumN s.n (fun b => cnt 1 (put2 s.ways p q _ x b)) + sumN s.n (fun a => cnt 2 (put2 s.ways p q _ a x)) + sumN s.n (fun a => ch s a x) = _
  rw [h, List.tail_cons, h1, h2]
  by_cases e1 : m = 1
  · subst e1
    simp only [if_true]
    rw [if_neg (by decide : ¬ (1 : Int) = 2), if_neg (by decide : ¬ (1 : Int) = 2)]
    rw [show cnt 1 l - (cnt 1 l + 1) = -1 by omega, show cnt 2 l - (cnt 2 l + 0) = 0 by omega, Int.mul_zero, Int.mul_neg, Int.mul_one]
    omega
  · rw [if_neg e1, if_neg e1, show cnt 1 l - (cnt 1 l + 0) = 0 by omega, Int.mul_zero]
    by_cases e2 : m = 2
    · subst e2
      simp only [if_true]
      rw [show cnt 2 l - (cnt 2 l + 1) = -1 by omega, Int.mul_neg, Int.mul_one]
      omega
    · rw [if_neg e2, if_neg e2, show cnt 2 l - (cnt 2 l + 0) = 0 by omega, Int.mul_zero]
      omega

theorem dues_parent (s : CNet) {q : Nat} (hq : q < s.n) (h0 : q ≠ 0) (v : Int) (x : Nat) :
    dues { s with parent := put1 s.parent q v } x = dues s x - (if s.parent q = x then 1 else 0) + (if v = x then 1 else 0) := by
  unfold dues
  have h1 := sum_upd (n := s.n) (f := fun a => ch s a x) (g := fun a => ch { s with parent := put1 s.parent q v } a x) hq (fun j _ hj => by
    simp only [ch, put1_ne s.parent v hj])
  have e1 : ch { s with parent := put1 s.parent q v } q x = if v = x then 1 else 0 := by
    simp only [ch, put1_self]
    by_cases e : v = x <;> simp [e, h0]
  have e2 : ch s q x = if s.parent q = x then 1 else 0 := by
    simp only [ch]
    by_cases e : s.parent q = x <;> simp [e, h0]
  simp only [e1, e2] at h1
  show sumN s.n (fun b => cnt 1 (s.ways x b)) + sumN s.n (fun a => cnt 2 (s.ways a x)) + sumN s.n (fun a => ch { s with parent := put1 s.parent q v } a x) = _
  omega

/-- What stays true of the net. -/
structure CInv (s : CNet) : Prop where
  n1 : 1 ≤ s.n
  n5 : s.n ≤ 5
  par : ∀ p, p < s.n → -1 ≤ s.parent p ∧ s.parent p < s.n
  par0 : s.parent 0 = 0
  msg : ∀ p q, ∀ m ∈ s.ways p q, m = 1 ∨ m = 2
  owe : ∀ p, p < s.n → s.owed p = dues s p
  eng : ∀ p, p < s.n → p ≠ 0 → (0 ≤ s.parent p ↔ (s.works p = true ∨ 0 < s.owed p))
  cal : s.calm = true ↔ (s.works 0 = false ∧ s.owed 0 ≤ 0)
  rank : ∃ r : Nat → Nat, ∀ q, q < s.n → q ≠ 0 → 0 ≤ s.parent q → (s.parent q = 0 ∨ 0 ≤ s.parent (s.parent q).toNat) ∧ r (s.parent q).toNat < r q
  sent0 : 0 ≤ s.sent
  sent20 : s.sent ≤ 20

theorem dues_nonneg (s : CNet) (p : Nat) : 0 ≤ dues s p := by
  unfold dues
  have h1 := sum_nonneg (n := s.n) (f := fun q => cnt 1 (s.ways p q)) (fun _ _ => cnt_nonneg _ _)
  have h2 := sum_nonneg (n := s.n) (f := fun q => cnt 2 (s.ways q p)) (fun _ _ => cnt_nonneg _ _)
  have h3 := sum_nonneg (n := s.n) (f := fun q => ch s q p) (fun _ _ => ch_nonneg _ _ _)
  omega

theorem dues_way1 (s : CNet) {p q : Nat} (hq : q < s.n) : cnt 1 (s.ways p q) ≤ dues s p := by
  unfold dues
  have h1 := sum_ge (n := s.n) (f := fun q => cnt 1 (s.ways p q)) (p := q) (fun _ _ => cnt_nonneg _ _) hq
  have h2 := sum_nonneg (n := s.n) (f := fun q => cnt 2 (s.ways q p)) (fun _ _ => cnt_nonneg _ _)
  have h3 := sum_nonneg (n := s.n) (f := fun q => ch s q p) (fun _ _ => ch_nonneg _ _ _)
  omega

theorem dues_way2 (s : CNet) {p q : Nat} (hq : q < s.n) : cnt 2 (s.ways q p) ≤ dues s p := by
  unfold dues
  have h1 := sum_nonneg (n := s.n) (f := fun q => cnt 1 (s.ways p q)) (fun _ _ => cnt_nonneg _ _)
  have h2 := sum_ge (n := s.n) (f := fun q => cnt 2 (s.ways q p)) (p := q) (fun _ _ => cnt_nonneg _ _) hq
  have h3 := sum_nonneg (n := s.n) (f := fun q => ch s q p) (fun _ _ => ch_nonneg _ _ _)
  omega

theorem dues_child (s : CNet) {p q : Nat} (hq : q < s.n) : ch s q p ≤ dues s p := by
  unfold dues
  have h1 := sum_nonneg (n := s.n) (f := fun q => cnt 1 (s.ways p q)) (fun _ _ => cnt_nonneg _ _)
  have h2 := sum_nonneg (n := s.n) (f := fun q => cnt 2 (s.ways q p)) (fun _ _ => cnt_nonneg _ _)
  have h3 := sum_ge (n := s.n) (f := fun q => ch s q p) (p := q) (fun _ _ => ch_nonneg _ _ _) hq
  omega

theorem ch_one (s : CNet) {q p : Nat} (h0 : q ≠ 0) (h : s.parent q = p) : ch s q p = 1 := by unfold ch; rw [if_pos ⟨h0, h⟩]

/-- Who is engaged. -/
def eng (s : CNet) (p : Nat) : Prop := 0 ≤ s.parent p

/-- If node 0 owes nothing and works not, nobody is engaged but itself. -/
theorem CInv.alone {s : CNet} (h : CInv s) (h0 : s.owed 0 ≤ 0) : ∀ q, q < s.n → q ≠ 0 → s.parent q = -1 := by
  obtain ⟨r, hr⟩ := h.rank
  have key : ∀ k q, q < s.n → q ≠ 0 → r q ≤ k → s.parent q < 0 := by
    intro k
    induction k with
    | zero =>
      intro q hq hq0 hrq
      refine Classical.byContradiction fun hn => ?_
      have := (hr q hq hq0 (by omega)).2; omega
    | succ k ih =>
      intro q hq hq0 hrq
      refine Classical.byContradiction fun hn => ?_
      obtain ⟨h1, h2⟩ := hr q hq hq0 (by omega)
      have hpr := h.par q hq
      by_cases e : s.parent q = 0
      · have h3 := dues_child s (p := 0) hq
        rw [ch_one s hq0 (by rw [e]; rfl)] at h3
        have h4 := h.owe 0 (by have := h.n1; omega)
        omega
      · have := ih (s.parent q).toNat (by omega) (by omega) (by omega)
        rcases h1 with h1 | h1 <;> omega
  intro q hq hq0
  have h1 := key (r q) q hq hq0 (Nat.le_refl _)
  have h2 := (h.par q hq).1
  omega

/-- Then nobody works, and nothing is on any way. -/
theorem CInv.calmed {s : CNet} (h : CInv s) (hc : s.calm = true) : (∀ p, p < s.n → s.works p = false) ∧ ∀ p q, p < s.n → q < s.n → s.ways p q = [] := by
  obtain ⟨hw, ho⟩ := h.cal.1 hc
  have hal := h.alone ho
  have hno : ∀ p, p < s.n → s.works p = false ∧ s.owed p ≤ 0 := by
    intro p hp
    by_cases e : p = 0
    · subst e; exact ⟨hw, ho⟩
    · have h1 := h.eng p hp e
      have h2 := hal p hp e
      refine ⟨?_, ?_⟩
      · cases hx : s.works p with
        | false => rfl
        | true => have := h1.2 (.inl hx); omega
      · exact Classical.byContradiction fun hn => by have := h1.2 (.inr (by omega)); omega
  refine ⟨fun p hp => (hno p hp).1, fun p q hp hq => ?_⟩
  have h1 := dues_way1 s (p := p) hq
  have h2 := dues_way2 s (p := q) hp
  rw [← h.owe p hp] at h1
  rw [← h.owe q hq] at h2
  have h3 := (hno p hp).2
  have h4 := (hno q hq).2
  cases hl : s.ways p q with
  | nil => rfl
  | cons m l =>
    rw [hl, cnt_cons] at h1 h2
    have h5 := cnt_nonneg 1 l
    have h6 := cnt_nonneg 2 l
    rcases h.msg p q m (by rw [hl]; simp) with e | e
    · subst e; simp at h1; omega
    · subst e; simp at h2; omega

theorem CInv.start {n : Nat} (h1 : 1 ≤ n) (h5 : n ≤ 5) : CInv (CNet.init n) where
  n1 := h1
  n5 := h5
  par := fun p hp => by
    show -1 ≤ (if p = 0 then (0 : Int) else -1) ∧ (if p = 0 then (0 : Int) else -1) < (n : Int)
    split <;> omega
  par0 := rfl
  msg := fun p q m hm => by cases hm
  owe := fun p hp => by
    show (0 : Int) = _
    unfold dues
    have h1 : sumN n (fun q => cnt 1 ((CNet.init n).ways p q)) = 0 := sum_zero fun _ _ => rfl
    have h2 : sumN n (fun q => cnt 2 ((CNet.init n).ways q p)) = 0 := sum_zero fun _ _ => rfl
    have h3 : sumN n (fun q => ch (CNet.init n) q p) = 0 := sum_zero fun q _ => by
      unfold ch; rw [if_neg]
      rintro ⟨hq, he⟩
      have : (CNet.init n).parent q = -1 := if_neg hq
      omega
    show (0 : Int) = sumN n _ + sumN n _ + sumN n _
    rw [h1, h2, h3]; rfl
  eng := fun p hp h0 => by
    have e1 : (CNet.init n).parent p = -1 := if_neg h0
    have e2 : (CNet.init n).works p = false := decide_eq_false h0
    have e3 : (CNet.init n).owed p = 0 := rfl
    rw [e1, e2, e3]; simp
  cal := by
    constructor
    · intro h; cases h
    · rintro ⟨h, _⟩; cases h
  rank := ⟨fun _ => 0, fun q hq h0 he => by
    have e1 : (CNet.init n).parent q = -1 := if_neg h0
    omega⟩
  sent0 := Int.le_refl 0
  sent20 := show (0 : Int) ≤ 20 by decide

end Go.Proofs.YtbckjmbhipofaaaDoor
