/-
  The net that tells all of all, plain: what sending and taking do, and what stays true.
  Conditions: none beyond those of each lemma.
-/
import Derived.Test.YtiakkhahohhpaaaDoorSum
namespace Go.Proofs.YtiakkhahohhpaaaDoor

/-- bys: who sent a note; vec: how many of each node's notes its sender had; sg: what its sender had (told of nobody). -/
structure CNet where
  n : Nat
  m : Nat
  bys : Nat → Nat
  vec : Nat → Nat → Int
  sg : Nat → List Int
  had : Nat → Nat → Int
  got : Nat → List Int

def CNet.init (n : Nat) : CNet := ⟨n, 0, fun _ => 0, fun _ _ => 0, fun _ => [], fun _ _ => 0, fun _ => []⟩
def CNet.is (s : CNet) (p : Int) : Bool := decide (0 ≤ p) && decide (p ≤ (s.n : Int) - 1)
def CNet.isNote (s : CNet) (k : Int) : Bool := decide (0 ≤ k) && decide (k ≤ (s.m : Int) - 1)
def CNet.keep (s : CNet) (p k : Nat) : CNet := { s with had := put2 s.had p (s.bys k) (s.had p (s.bys k) + 1), got := put1 s.got p (s.got p ++ [(k : Int)]) }
def CNet.note (s : CNet) (p : Nat) : CNet := { s with m := s.m + 1, bys := put1 s.bys s.m p, vec := fun k q => if k = s.m then s.had p q else s.vec k q, sg := put1 s.sg s.m (s.got p) }
def CNet.sendErr (s : CNet) (p : Int) : Int := if s.is p = false then 1 else if s.m = 20 then 4 else 0
def CNet.sendVal (s : CNet) (p : Int) : Int := if s.sendErr p = 0 then s.m else 0
def CNet.send (s : CNet) (p : Int) : CNet := if s.sendErr p = 0 then (s.note p.toNat).keep p.toNat s.m else s
/-- q's notes do not bar k at p. -/
def CNet.fits (s : CNet) (p k q : Nat) : Bool := if q = s.bys k then decide (s.had p q = s.vec k q) else decide (s.vec k q ≤ s.had p q)
def fitsL (s : CNet) (p k : Nat) : Nat → Bool
  | 0 => true
  | j + 1 => fitsL s p k j && s.fits p k j
def CNet.takeErr (s : CNet) (p k : Int) : Int := if s.is p = false then 1 else if s.isNote k = false then 1 else if (s.got p.toNat).contains k = true then 6 else if fitsL s p.toNat k.toNat s.n = false then 7 else 0
def CNet.take (s : CNet) (p k : Int) : CNet := if s.takeErr p k = 0 then s.keep p.toNat k.toNat else s
def CNet.gotOf (s : CNet) (p : Int) : List Int := if s.is p = true then s.got p.toNat else []
def CNet.act (s : CNet) (l : List Int) : CNet := if l.length = 1 then s.send (l.getD 0 0) else if l.length = 2 then s.take (l.getD 0 0) (l.getD 1 0) else s

theorem CNet.is_iff (s : CNet) (p : Int) : s.is p = true ↔ ∃ a : Nat, p = a ∧ a < s.n := by
  unfold CNet.is
  simp only [Bool.and_eq_true, decide_eq_true_eq]
  constructor
  · rintro ⟨h1, h2⟩; exact ⟨p.toNat, by omega, by omega⟩
  · rintro ⟨a, rfl, h⟩; omega
theorem CNet.isNote_iff (s : CNet) (k : Int) : s.isNote k = true ↔ ∃ a : Nat, k = a ∧ a < s.m := by
  unfold CNet.isNote
  simp only [Bool.and_eq_true, decide_eq_true_eq]
  constructor
  · rintro ⟨h1, h2⟩; exact ⟨k.toNat, by omega, by omega⟩
  · rintro ⟨a, rfl, h⟩; omega

theorem fitsL_iff (s : CNet) (p k : Nat) : ∀ j, fitsL s p k j = true ↔ ∀ q, q < j → s.fits p k q = true
  | 0 => by simp [fitsL]
  | j + 1 => by
    unfold fitsL
    rw [Bool.and_eq_true, fitsL_iff s p k j]
    constructor
    · rintro ⟨h1, h2⟩ q hq
      by_cases e : q = j
      · subst e; exact h2
      · exact h1 q (by omega)
    · intro h; exact ⟨fun q hq => h q (by omega), h j (by omega)⟩

/-- Which of its sender's notes it is. -/
def CNet.ord (s : CNet) (k : Nat) : Int := s.vec k (s.bys k)
/-- How many of a list are q's. -/
def CNet.cntOf (s : CNet) (q : Nat) : List Int → Int
  | [] => 0
  | x :: l => (if s.bys x.toNat = q then 1 else 0) + s.cntOf q l

theorem cntOf_append (s : CNet) (q : Nat) : ∀ (a b : List Int), s.cntOf q (a ++ b) = s.cntOf q a + s.cntOf q b
  | [], b => by simp [CNet.cntOf]
  | x :: a, b => by
    have := cntOf_append s q a b
    rw [List.cons_append, CNet.cntOf, CNet.cntOf, this]; omega

/-- o: below it the senders of all notes have counted them. -/
structure CInv (s : CNet) (o : Nat) : Prop where
  n1 : 1 ≤ s.n
  n4 : s.n ≤ 4
  m20 : s.m ≤ 20
  byl : ∀ k, k < s.m → s.bys k < s.n
  vec0 : ∀ k q, k < s.m → q < s.n → 0 ≤ s.vec k q
  had0 : ∀ p q, p < s.n → q < s.n → 0 ≤ s.had p q
  vecM : ∀ k q, k < s.m → q < s.n → s.vec k q ≤ k
  hadM : ∀ p q, p < s.n → q < s.n → s.had p q ≤ s.m
  gotL : ∀ p, p < s.n → ∀ x ∈ s.got p, ∃ k : Nat, x = k ∧ k < s.m
  gotN : ∀ p, p < s.n → (s.got p).Nodup
  mem : ∀ p k, p < s.n → k < s.m → ((k : Int) ∈ s.got p ↔ s.ord k < s.had p (s.bys k))
  uni : ∀ j k, j < k → k < s.m → s.bys j = s.bys k → s.ord j < s.ord k
  top : ∀ p q, p < s.n → q < s.n → s.had p q ≤ s.had q q
  own : ∀ k, k < o → k < s.m → s.ord k < s.had (s.bys k) (s.bys k)
  exi : ∀ p q, p < s.n → q < s.n → ∀ c : Int, 0 ≤ c → c < s.had p q → ∃ j, j < s.m ∧ s.bys j = q ∧ s.ord j = c
  exv : ∀ k q, k < s.m → q < s.n → ∀ c : Int, 0 ≤ c → c < s.vec k q → ∃ j, j < k ∧ s.bys j = q ∧ s.ord j = c
  sgm : ∀ k, k < s.m → ∀ x ∈ s.sg k, ∃ j : Nat, x = j ∧ j < k ∧ s.ord j < s.vec k (s.bys j)
  ahead : ∀ p, p < s.n → ∀ (l1 l2 : List Int) (k : Nat), s.got p = l1 ++ (k : Int) :: l2 → (∀ x ∈ s.sg k, x ∈ l1) ∧ s.ord k = s.cntOf (s.bys k) l1
  cnt : ∀ p q, p < s.n → q < s.n → s.had p q = s.cntOf q (s.got p)

theorem CInv.start {n : Nat} (h1 : 1 ≤ n) (h4 : n ≤ 4) : CInv (CNet.init n) 0 where
  n1 := h1
  n4 := h4
  m20 := Nat.zero_le _
  byl := fun _ h => absurd h (Nat.not_lt_zero _)
  vec0 := fun _ _ h => absurd h (Nat.not_lt_zero _)
  had0 := fun _ _ _ _ => Int.le_refl _
  vecM := fun _ _ h => absurd h (Nat.not_lt_zero _)
  hadM := fun _ _ _ _ => Int.le_refl _
  gotL := fun _ _ x hx => by cases hx
  gotN := fun _ _ => List.nodup_nil
  mem := fun _ _ _ h => absurd h (Nat.not_lt_zero _)
  uni := fun _ _ _ h => absurd h (Nat.not_lt_zero _)
  top := fun _ _ _ _ => Int.le_refl _
  own := fun _ h _ => absurd h (Nat.not_lt_zero _)
  exi := fun _ _ _ _ c h0 h => by
    have h : c < 0 := h
    omega
  exv := fun _ _ h => absurd h (Nat.not_lt_zero _)
  sgm := fun _ h => absurd h (Nat.not_lt_zero _)
  ahead := fun p _ l1 l2 k h => by
    have h : ([] : List Int) = l1 ++ (k : Int) :: l2 := h
    cases l1 <;> cases h
  cnt := fun _ _ _ _ => rfl

theorem split_last {l l1 l2 : List Int} {x y : Int} (h : l ++ [x] = l1 ++ y :: l2) : (l1 = l ∧ y = x ∧ l2 = []) ∨ ∃ l3, l2 = l3 ++ [x] ∧ l = l1 ++ y :: l3 := by
  rcases List.eq_nil_or_concat l2 with e | ⟨l3, z, e⟩
  · left
    subst e
    have := List.append_inj' h rfl
    obtain ⟨h1, h2⟩ := this
    injection h2 with h2 _
    exact ⟨h1.symm, h2.symm, rfl⟩
  · right
    rw [List.concat_eq_append] at e
    subst e
    rw [← List.cons_append, ← List.append_assoc] at h
    obtain ⟨h1, h2⟩ := List.append_inj' h rfl
    injection h2 with h2 _
    exact ⟨l3, by rw [h2], h1⟩

/-- What keeping needs: all that it came of is there, and it is the next one of its sender. -/
theorem CInv.keep {s : CNet} {o : Nat} (h : CInv s o) {p k : Nat} (hko : k < o ∨ s.bys k = p) (hp : p < s.n) (hk : k < s.m) (hn : (k : Int) ∉ s.got p) (he : s.had p (s.bys k) = s.ord k) (hf : ∀ q, q < s.n → s.vec k q ≤ s.had p q) : CInv (s.keep p k) o := by
  have hb := h.byl k hk
  have eh : ∀ a b, a ≠ p ∨ b ≠ s.bys k → (s.keep p k).had a b = s.had a b := fun a b hab => put2_ne _ _ hab
  have nh : (s.keep p k).had p (s.bys k) = s.ord k + 1 := by show put2 s.had p (s.bys k) _ p (s.bys k) = _; rw [put2_self, he]
  have ng : (s.keep p k).got p = s.got p ++ [(k : Int)] := put1_self _ _ _
  have eg : ∀ a, a ≠ p → (s.keep p k).got a = s.got a := fun a ha => put1_ne _ _ ha
  have hge : ∀ a b, s.had a b ≤ (s.keep p k).had a b := fun a b => by
    by_cases e : a = p ∧ b = s.bys k
    · obtain ⟨rfl, rfl⟩ := e; rw [nh]; omega
    · rw [eh a b (by omega)]; exact Int.le_refl _
  have hcn : ∀ q l, (s.keep p k).cntOf q l = s.cntOf q l := fun q l => by
    induction l with
    | nil => rfl
    | cons x l ih => rw [CNet.cntOf, CNet.cntOf, ih]; rfl
  exact {
    n1 := h.n1, n4 := h.n4, m20 := h.m20, byl := h.byl, vec0 := h.vec0
    had0 := fun a b ha hb' => Int.le_trans (h.had0 a b ha hb') (hge a b)
    vecM := h.vecM
    hadM := fun a b ha hb' => by
      by_cases e : a = p ∧ b = s.bys k
      · obtain ⟨rfl, rfl⟩ := e
        rw [nh]
        have := h.vecM k _ hk hb
        show s.vec k (s.bys k) + 1 ≤ (s.m : Int)
        omega
      · rw [eh a b (by omega)]; exact h.hadM a b ha hb'
    gotL := fun a ha x hx => by
      by_cases e : a = p
      · subst e
        rw [ng, List.mem_append, List.mem_singleton] at hx
        rcases hx with hx | rfl
        · exact h.gotL a ha x hx
        · exact ⟨k, rfl, hk⟩
      · rw [eg a e] at hx; exact h.gotL a ha x hx
    gotN := fun a ha => by
      by_cases e : a = p
      · subst e
        rw [ng, List.nodup_append]
        refine ⟨h.gotN a ha, by simp, fun x hx y hy e => ?_⟩
        rw [List.mem_singleton] at hy
        subst hy; subst e; exact hn hx
      · rw [eg a e]; exact h.gotN a ha
    mem := fun a j ha hj => by
      show (j : Int) ∈ (s.keep p k).got a ↔ s.ord j < (s.keep p k).had a (s.bys j)
      by_cases e : a = p
      · subst e
        rw [ng, List.mem_append, List.mem_singleton]
        by_cases ej : j = k
        · subst ej
          rw [nh]
          exact ⟨fun _ => by omega, fun _ => .inr rfl⟩
        · have hjk : ¬ (j : Int) = k := by omega
          by_cases eb : s.bys j = s.bys k
          · rw [eb, nh]
            have h1 := h.mem a j ha hj
            have hne : s.ord j ≠ s.ord k := by
              intro e
              rcases Nat.lt_trichotomy j k with h2 | h2 | h2
              · have := h.uni j k h2 hk eb; omega
              · exact ej h2
              · have := h.uni k j h2 hj eb.symm; omega
            rw [eb, he] at h1
            constructor
            · rintro (hx | hx)
              · have := h1.1 hx; omega
              · exact absurd hx hjk
            · intro hx
              left; exact h1.2 (by omega)
          · rw [eh a _ (.inr eb)]
            have h1 := h.mem a j ha hj
            constructor
            · rintro (hx | hx)
              · exact h1.1 hx
              · exact absurd hx hjk
            · intro hx; exact .inl (h1.2 hx)
      · rw [eg a e, eh a _ (.inl e)]; exact h.mem a j ha hj
    uni := h.uni
    top := fun a b ha hb' => by
      by_cases e : a = p ∧ b = s.bys k
      · obtain ⟨rfl, rfl⟩ := e
        rw [nh]
        by_cases e2 : s.bys k = a
        · have := hge (s.bys k) (s.bys k)
          have e3 : (s.keep a k).had (s.bys k) (s.bys k) = s.ord k + 1 := by
            have := nh; rw [e2] at this ⊢; exact this
          rw [e3]; exact Int.le_refl _
        · have h1 := h.own k (hko.resolve_right e2) hk
          have := hge (s.bys k) (s.bys k)
          omega
      · rw [eh a b (by omega)]
        exact Int.le_trans (h.top a b ha hb') (hge b b)
    own := fun j ho hj => Int.lt_of_lt_of_le (h.own j ho hj) (hge _ _)
    exi := fun a b ha hb' c h0 hc => by
      by_cases e : a = p ∧ b = s.bys k
      · obtain ⟨rfl, rfl⟩ := e
        rw [nh] at hc
        by_cases e2 : c = s.ord k
        · exact ⟨k, hk, rfl, e2.symm⟩
        · exact h.exi a (s.bys k) ha hb' c h0 (by omega)
      · rw [eh a b (by omega)] at hc; exact h.exi a b ha hb' c h0 hc
    exv := h.exv
    sgm := h.sgm
    ahead := fun a ha l1 l2 j hl => by
      by_cases e : a = p
      · subst e
        rw [ng] at hl
        rcases split_last hl with ⟨rfl, e2, _⟩ | ⟨l3, _, e3⟩
        · have : j = k := by omega
          subst this
          refine ⟨fun x hx => ?_, ?_⟩
          · obtain ⟨i, rfl, hi, hv⟩ := h.sgm j hk x hx
            exact (h.mem a i ha (by omega)).2 (Int.lt_of_lt_of_le hv (hf _ (h.byl i (by omega))))
          · show s.ord j = (s.keep a j).cntOf (s.bys j) (s.got a)
            rw [hcn, ← h.cnt a _ ha hb, he]
        · obtain ⟨k1, k2⟩ := h.ahead a ha l1 l3 j e3
          refine ⟨k1, ?_⟩
          show s.ord j = (s.keep a k).cntOf (s.bys j) l1
          rw [hcn]; exact k2
      · rw [eg a e] at hl
        obtain ⟨k1, k2⟩ := h.ahead a ha l1 l2 j hl
        refine ⟨k1, ?_⟩
        show s.ord j = (s.keep p k).cntOf (s.bys j) l1
        rw [hcn]; exact k2
    cnt := fun a b ha hb' => by
      rw [hcn]
      by_cases e : a = p
      · subst e
        rw [ng, cntOf_append, ← h.cnt a b ha hb']
        show _ = _ + ((if s.bys ((k : Int).toNat) = b then (1 : Int) else 0) + 0)
        rw [Int.toNat_natCast]
        by_cases e2 : b = s.bys k
        · subst e2; rw [nh, if_pos rfl, he]; omega
        · rw [eh a b (.inr e2), if_neg (fun h => e2 h.symm)]; omega
      · rw [eg a e, eh a b (.inl e)]; exact h.cnt a b ha hb' }

theorem cntOf_congr {s t : CNet} (q : Nat) : ∀ (l : List Int), (∀ x ∈ l, s.bys x.toNat = t.bys x.toNat) → s.cntOf q l = t.cntOf q l
  | [], _ => rfl
  | x :: l, h => by
    rw [CNet.cntOf, CNet.cntOf, cntOf_congr q l (fun y hy => h y (List.mem_cons_of_mem _ hy)), h x (List.mem_cons_self ..)]

theorem CInv.note {s : CNet} (h : CInv s s.m) {p : Nat} (hp : p < s.n) (hm : s.m < 20) : CInv (s.note p) s.m := by
  have b1 : ∀ k, k ≠ s.m → (s.note p).bys k = s.bys k := fun k hk => put1_ne _ _ hk
  have b2 : (s.note p).bys s.m = p := put1_self _ _ _
  have v1 : ∀ k q, k ≠ s.m → (s.note p).vec k q = s.vec k q := fun k q hk => if_neg hk
  have v2 : ∀ q, (s.note p).vec s.m q = s.had p q := fun q => if_pos rfl
  have g1 : ∀ k, k ≠ s.m → (s.note p).sg k = s.sg k := fun k hk => put1_ne _ _ hk
  have g2 : (s.note p).sg s.m = s.got p := put1_self _ _ _
  have o1 : ∀ k, k ≠ s.m → (s.note p).ord k = s.ord k := fun k hk => by
    show (s.note p).vec k ((s.note p).bys k) = _; rw [b1 k hk, v1 k _ hk]; rfl
  have o2 : (s.note p).ord s.m = s.had p p := by
    show (s.note p).vec s.m ((s.note p).bys s.m) = _; rw [b2, v2]
  have hM : (s.note p).m = s.m + 1 := rfl
  have hcn : ∀ a, a < s.n → ∀ q l, (∀ x ∈ l, x ∈ s.got a) → (s.note p).cntOf q l = s.cntOf q l := fun a ha q l hl => by
    refine cntOf_congr q l fun x hx => ?_
    obtain ⟨k, rfl, hk⟩ := h.gotL a ha x (hl x hx)
    exact b1 k (by omega)
  have hlt : ∀ k, k < (s.note p).m → k ≠ s.m → k < s.m := fun k h1 h2 => by rw [hM] at h1; omega
  exact {
    n1 := h.n1, n4 := h.n4, m20 := by rw [hM]; omega
    byl := fun k hk => by
      by_cases e : k = s.m
      · subst e; rw [b2]; exact hp
      · rw [b1 k e]; exact h.byl k (hlt k hk e)
    vec0 := fun k q hk hq => by
      by_cases e : k = s.m
      · subst e; rw [v2]; exact h.had0 p q hp hq
      · rw [v1 k q e]; exact h.vec0 k q (hlt k hk e) hq
    had0 := h.had0
    vecM := fun k q hk hq => by
      by_cases e : k = s.m
      · subst e; rw [v2]; exact h.hadM p q hp hq
      · rw [v1 k q e]; exact h.vecM k q (hlt k hk e) hq
    hadM := fun a b ha hb => by
      have := h.hadM a b ha hb
      show s.had a b ≤ ((s.note p).m : Int)
      rw [hM]; omega
    gotL := fun a ha x hx => by
      obtain ⟨k, e, hk⟩ := h.gotL a ha x hx
      exact ⟨k, e, by rw [hM]; omega⟩
    gotN := h.gotN
    mem := fun a k ha hk => by
      show (k : Int) ∈ s.got a ↔ _ < s.had a _
      by_cases e : k = s.m
      · subst e
        rw [o2, b2]
        constructor
        · intro hx
          obtain ⟨j, e, hj⟩ := h.gotL a ha _ hx
          omega
        · intro hx
          have := h.top a p ha hp
          omega
      · rw [o1 k e, b1 k e]; exact h.mem a k ha (hlt k hk e)
    uni := fun j k hjk hk eb => by
      have hj : j ≠ s.m := by rw [hM] at hk; omega
      rw [b1 j hj] at eb
      rw [o1 j hj]
      by_cases e : k = s.m
      · subst e
        rw [b2] at eb
        rw [o2]
        have := h.own j hjk hjk
        rw [eb] at this
        exact this
      · rw [b1 k e] at eb
        rw [o1 k e]; exact h.uni j k hjk (hlt k hk e) eb
    top := h.top
    own := fun k ho hk => by
      rw [o1 k (by omega), b1 k (by omega)]
      exact h.own k ho ho
    exi := fun a b ha hb c h0 hc => by
      obtain ⟨j, k1, k2, k3⟩ := h.exi a b ha hb c h0 hc
      exact ⟨j, by rw [hM]; omega, by rw [b1 j (by omega)]; exact k2, by rw [o1 j (by omega)]; exact k3⟩
    exv := fun k q hk hq c h0 hc => by
      by_cases e : k = s.m
      · subst e
        rw [v2] at hc
        obtain ⟨j, k1, k2, k3⟩ := h.exi p q hp hq c h0 hc
        exact ⟨j, k1, by rw [b1 j (by omega)]; exact k2, by rw [o1 j (by omega)]; exact k3⟩
      · rw [v1 k q e] at hc
        have hk' := hlt k hk e
        obtain ⟨j, k1, k2, k3⟩ := h.exv k q hk' hq c h0 hc
        exact ⟨j, k1, by rw [b1 j (by omega)]; exact k2, by rw [o1 j (by omega)]; exact k3⟩
    sgm := fun k hk x hx => by
      by_cases e : k = s.m
      · subst e
        rw [g2] at hx
        obtain ⟨j, rfl, hj⟩ := h.gotL p hp x hx
        refine ⟨j, rfl, hj, ?_⟩
        rw [o1 j (by omega), b1 j (by omega), v2]
        exact (h.mem p j hp hj).1 hx
      · rw [g1 k e] at hx
        have hk' := hlt k hk e
        obtain ⟨j, rfl, hj, k3⟩ := h.sgm k hk' x hx
        refine ⟨j, rfl, hj, ?_⟩
        rw [o1 j (by omega), b1 j (by omega), v1 k _ e]
        exact k3
    ahead := fun a ha l1 l2 k hl => by
      have hl : s.got a = l1 ++ (k : Int) :: l2 := hl
      have hk : k < s.m := by
        obtain ⟨j, e, hj⟩ := h.gotL a ha k (by rw [hl]; simp)
        omega
      obtain ⟨k1, k2⟩ := h.ahead a ha l1 l2 k hl
      rw [g1 k (by omega), o1 k (by omega), b1 k (by omega), hcn a ha _ l1 (fun x hx => by rw [hl]; simp [hx])]
      exact ⟨k1, k2⟩
    cnt := fun a b ha hb => by
      show s.had a b = (s.note p).cntOf b (s.got a)
      rw [hcn a ha b (s.got a) (fun x hx => hx)]
      exact h.cnt a b ha hb }

theorem CInv.more {s : CNet} {o : Nat} (h : CInv s o) (he : o + 1 = s.m) (hw : s.ord o < s.had (s.bys o) (s.bys o)) : CInv s s.m := by
  refine { h with own := ?_ }
  intro k _ hk
  by_cases e : k = o
  · subst e; exact hw
  · exact h.own k (by omega) hk

theorem CNet.send_is {s : CNet} {p : Int} (h : s.sendErr p = 0) : ∃ a : Nat, p = a ∧ a < s.n ∧ s.m ≠ 20 := by
  unfold CNet.sendErr at h
  by_cases h1 : s.is p = false
  · rw [if_pos h1] at h; omega
  · rw [if_neg h1] at h
    by_cases h2 : s.m = 20
    · rw [if_pos h2] at h; omega
    · obtain ⟨a, e, ha⟩ := (s.is_iff p).1 (by simpa using h1)
      exact ⟨a, e, ha, h2⟩

theorem CInv.send {s : CNet} (h : CInv s s.m) (p : Int) : CInv (s.send p) (s.send p).m := by
  unfold CNet.send
  by_cases he : s.sendErr p = 0
  · rw [if_pos he]
    obtain ⟨a, rfl, ha, hm⟩ := CNet.send_is he
    rw [Int.toNat_natCast]
    have h20 := h.m20
    have h1 := h.note ha (by omega)
    have b2 : (s.note a).bys s.m = a := put1_self _ _ _
    have v2 : ∀ q, (s.note a).vec s.m q = s.had a q := fun q => if_pos rfl
    have o2 : (s.note a).ord s.m = s.had a a := by
      show (s.note a).vec s.m ((s.note a).bys s.m) = _; rw [b2, v2]
    have hM : (s.note a).m = s.m + 1 := rfl
    have h2 := h1.keep (p := a) (k := s.m) (.inr b2) ha (by rw [hM]; omega) (fun hx => by
      obtain ⟨j, e, hj⟩ := h.gotL a ha _ hx
      omega) (by rw [o2, b2]; rfl) (fun q _ => by rw [v2]; exact Int.le_refl _)
    refine h2.more rfl ?_
    show (s.note a).ord s.m < put2 (s.note a).had a ((s.note a).bys s.m) _ ((s.note a).bys s.m) ((s.note a).bys s.m)
    rw [b2, put2_self, o2]
    show _ < s.had a a + 1
    omega
  · rw [if_neg he]; exact h

theorem CNet.take_is {s : CNet} {p k : Int} (h : s.takeErr p k = 0) : ∃ a b : Nat, p = a ∧ a < s.n ∧ k = b ∧ b < s.m ∧ (b : Int) ∉ s.got a ∧ fitsL s a b s.n = true := by
  unfold CNet.takeErr at h
  by_cases h1 : s.is p = false
  · rw [if_pos h1] at h; omega
  rw [if_neg h1] at h
  by_cases h2 : s.isNote k = false
  · rw [if_pos h2] at h; omega
  rw [if_neg h2] at h
  obtain ⟨a, rfl, ha⟩ := (s.is_iff p).1 (by simpa using h1)
  obtain ⟨b, rfl, hb⟩ := (s.isNote_iff k).1 (by simpa using h2)
  rw [Int.toNat_natCast, Int.toNat_natCast] at h
  by_cases h3 : (s.got a).contains (b : Int) = true
  · rw [if_pos h3] at h; omega
  rw [if_neg h3] at h
  by_cases h4 : fitsL s a b s.n = false
  · rw [if_pos h4] at h; omega
  exact ⟨a, b, rfl, ha, rfl, hb, fun hx => h3 (List.contains_iff_mem.2 hx), by simpa using h4⟩

theorem CInv.take {s : CNet} (h : CInv s s.m) (p k : Int) : CInv (s.take p k) (s.take p k).m := by
  unfold CNet.take
  by_cases he : s.takeErr p k = 0
  · rw [if_pos he]
    obtain ⟨a, b, rfl, ha, rfl, hb, hn, hf⟩ := CNet.take_is he
    rw [Int.toNat_natCast, Int.toNat_natCast]
    have hf := (fitsL_iff s a b s.n).1 hf
    refine h.keep (.inl hb) ha hb hn ?_ ?_
    · have := hf _ (h.byl b hb)
      unfold CNet.fits at this
      rw [if_pos rfl] at this
      exact of_decide_eq_true this
    · intro q hq
      have := hf q hq
      unfold CNet.fits at this
      by_cases e : q = s.bys b
      · rw [if_pos e] at this
        have := of_decide_eq_true this
        omega
      · rw [if_neg e] at this
        exact of_decide_eq_true this
  · rw [if_neg he]; exact h

theorem CInv.act {s : CNet} (h : CInv s s.m) (l : List Int) : CInv (s.act l) (s.act l).m := by
  unfold CNet.act
  by_cases h1 : l.length = 1
  · rw [if_pos h1]; exact h.send _
  · rw [if_neg h1]
    by_cases h2 : l.length = 2
    · rw [if_pos h2]; exact h.take _ _
    · rw [if_neg h2]; exact h

end Go.Proofs.YtiakkhahohhpaaaDoor
