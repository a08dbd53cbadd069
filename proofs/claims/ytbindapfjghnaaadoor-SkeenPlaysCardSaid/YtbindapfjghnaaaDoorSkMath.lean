/-
  The net that tells all the same in the same order, plain: what sending, hearing and fixing do.
  Conditions: none beyond those of each lemma.
-/
import Derived.Test.YtbindapfjghnaaaDoorSum
namespace Go.Proofs.YtbindapfjghnaaaDoor

structure SNet where
  n : Nat
  m : Nat
  clk : Nat → Int
  tm : Nat → Nat → Int
  here : Nat → Nat → Bool
  fix : Nat → Nat → Bool
  got : Nat → List Int

def SNet.init (n : Nat) : SNet := ⟨n, 0, fun _ => 0, fun _ _ => 0, fun _ _ => false, fun _ _ => false, fun _ => []⟩
def SNet.is (s : SNet) (p k : Int) : Bool := decide (0 ≤ p) && decide (p ≤ (s.n : Int) - 1) && (decide (0 ≤ k) && decide (k ≤ (s.m : Int) - 1))

def SNet.sendErr (s : SNet) : Int := if s.m = 20 then 4 else 0
def SNet.sendVal (s : SNet) : Int := if s.m = 20 then 0 else s.m
def SNet.send0 (s : SNet) : SNet := { s with m := s.m + 1, tm := fun k p => if k = s.m then 0 else s.tm k p, here := fun k p => if k = s.m then false else s.here k p, fix := fun k p => if k = s.m then false else s.fix k p }
def SNet.send (s : SNet) : SNet := if s.m = 20 then s else s.send0

def SNet.hearErr (s : SNet) (p k : Int) : Int := if s.is p k = false then 1 else if s.here k.toNat p.toNat = true then 7 else 0
def SNet.hear0 (s : SNet) (p k : Nat) : SNet := { s with clk := put1 s.clk p (s.clk p + 1), tm := put2 s.tm k p (s.clk p + 1), here := put2 s.here k p true, fix := put2 s.fix k p false }
def SNet.hear (s : SNet) (p k : Int) : SNet := if s.hearErr p k = 0 then s.hear0 p.toNat k.toNat else s
def SNet.hearVal (s : SNet) (p k : Int) : Int := if s.hearErr p k = 0 then s.clk p.toNat + 1 else 0

def allHere (s : SNet) (k : Nat) : Nat → Bool
  | 0 => true
  | j + 1 => allHere s k j && s.here k j
def mostL (s : SNet) (k : Nat) : Nat → Int
  | 0 => 0
  | j + 1 => max (mostL s k j) (s.tm k j)

/-- Here, and not had. -/
def SNet.pends (s : SNet) (p k : Nat) : Bool := s.here k p && !((s.got p).contains (k : Int))
/-- The least that pends at p, of the first j notes. -/
def bestL (s : SNet) (p : Nat) : Nat → Int
  | 0 => -1
  | j + 1 => if s.pends p j = true ∧ (bestL s p j < 0 ∨ s.tm j p < s.tm (bestL s p j).toNat p) then j else bestL s p j
def SNet.stops (s : SNet) (p : Nat) : Prop := bestL s p s.m < 0 ∨ s.fix (bestL s p s.m).toNat p = false
instance (s : SNet) (p : Nat) : Decidable (s.stops p) := by unfold SNet.stops; infer_instance
def SNet.take1 (s : SNet) (p : Nat) : SNet := { s with got := put1 s.got p (s.got p ++ [bestL s p s.m]) }
def takeN (p : Nat) : Nat → SNet → SNet
  | 0, s => s
  | f + 1, s => if s.stops p then s else takeN p f (s.take1 p)
def SNet.takeAll (s : SNet) (p : Nat) : SNet := takeN p (s.m + 1) s

def SNet.fixErr (s : SNet) (p k : Int) : Int := if s.is p k = false then 1 else if allHere s k.toNat s.n = false then 5 else if s.fix k.toNat p.toNat = true then 7 else 0
def SNet.fix1 (s : SNet) (p k : Nat) : SNet := { s with tm := put2 s.tm k p (mostL s k s.n), fix := put2 s.fix k p true, clk := put1 s.clk p (max (s.clk p) (mostL s k s.n)) }
def SNet.fixIt (s : SNet) (p k : Int) : SNet := if s.fixErr p k = 0 then (s.fix1 p.toNat k.toNat).takeAll p.toNat else s
def SNet.fixVal (s : SNet) (p k : Int) : Int := if s.fixErr p k = 0 then mostL s k.toNat s.n else 0

def SNet.timeOf (s : SNet) (p k : Int) : Int := if s.is p k = true then s.tm k.toNat p.toNat else 0
def SNet.fixedAt (s : SNet) (p k : Int) : Bool := if s.is p k = true then s.fix k.toNat p.toNat else false
def SNet.gotOf (s : SNet) (p : Int) : List Int := if 0 ≤ p ∧ p < s.n then s.got p.toNat else []

theorem SNet.is_iff (s : SNet) (p k : Int) : s.is p k = true ↔ ∃ a b : Nat, p = a ∧ k = b ∧ a < s.n ∧ b < s.m := by
  unfold SNet.is
  simp only [Bool.and_eq_true, decide_eq_true_eq]
  constructor
  · rintro ⟨⟨h1, h2⟩, h3, h4⟩; exact ⟨p.toNat, k.toNat, by omega, by omega, by omega, by omega⟩
  · rintro ⟨a, b, rfl, rfl, h1, h2⟩; omega

/-- Ahead: an earlier time, or the same and a lesser number. -/
def SNet.lt (s : SNet) (p : Nat) (x y : Int) : Prop := s.tm x.toNat p < s.tm y.toNat p ∨ (s.tm x.toNat p = s.tm y.toNat p ∧ x < y)

theorem SNet.lt_irrefl (s : SNet) (p : Nat) (x : Int) : ¬ s.lt p x x := by unfold SNet.lt; omega
theorem SNet.lt_trans {s : SNet} {p : Nat} {x y z : Int} (h1 : s.lt p x y) (h2 : s.lt p y z) : s.lt p x z := by unfold SNet.lt at *; omega

def cnt (s : SNet) : Int := sum2 20 fun k p => if k < s.m ∧ p < s.n ∧ s.here k p = true then 1 else 0

theorem cnt_le (s : SNet) : 0 ≤ cnt s ∧ cnt s ≤ 400 := by
  constructor
  · exact sum2_nonneg fun p q _ _ => by split <;> omega
  · have h1 : ∀ p, p < 20 → sumN 20 (fun q => if p < s.m ∧ q < s.n ∧ s.here p q = true then (1 : Int) else 0) ≤ 20 := fun p _ => by
      have := sum_le (n := 20) (f := fun q => if p < s.m ∧ q < s.n ∧ s.here p q = true then (1 : Int) else 0) (g := fun _ => 1) (fun j _ => by split <;> omega)
      rw [sum_const] at this; omega
    have h2 := sum_le h1
    rw [sum_const] at h2
    exact h2

theorem allHere_iff (s : SNet) (k : Nat) : ∀ j, allHere s k j = true ↔ ∀ q, q < j → s.here k q = true
  | 0 => by simp [allHere]
  | j + 1 => by
    unfold allHere
    rw [Bool.and_eq_true, allHere_iff s k j]
    constructor
    · rintro ⟨h1, h2⟩ q hq
      by_cases e : q = j
      · subst e; exact h2
      · exact h1 q (by omega)
    · intro h; exact ⟨fun q hq => h q (by omega), h j (by omega)⟩

theorem most_ge (s : SNet) (k : Nat) : ∀ j q, q < j → s.tm k q ≤ mostL s k j
  | j + 1, q, hq => by
    unfold mostL
    by_cases e : q = j
    · subst e; omega
    · have := most_ge s k j q (by omega); omega

theorem most_at (s : SNet) (k : Nat) : ∀ j, mostL s k j = 0 ∨ ∃ q, q < j ∧ mostL s k j = s.tm k q
  | 0 => .inl rfl
  | j + 1 => by
    unfold mostL
    rcases most_at s k j with h | ⟨q, hq, h⟩
    · by_cases e : mostL s k j ≤ s.tm k j
      · exact .inr ⟨j, by omega, by omega⟩
      · left; omega
    · by_cases e : mostL s k j ≤ s.tm k j
      · exact .inr ⟨j, by omega, by omega⟩
      · exact .inr ⟨q, by omega, by omega⟩

theorem most_nonneg (s : SNet) (k : Nat) : ∀ j, 0 ≤ mostL s k j
  | 0 => Int.le_refl _
  | j + 1 => by unfold mostL; have := most_nonneg s k j; omega

theorem SNet.pends_iff (s : SNet) (p k : Nat) : s.pends p k = true ↔ s.here k p = true ∧ (k : Int) ∉ s.got p := by
  unfold SNet.pends
  rw [Bool.and_eq_true, Bool.not_eq_true', ← Bool.not_eq_true, List.contains_iff_mem]

/-- The best one: none pends, or it is one that pends, and none that pends is ahead of it. -/
theorem best_spec (s : SNet) (p : Nat) : ∀ j, (bestL s p j = -1 ∧ ∀ k, k < j → s.pends p k = false) ∨ ∃ b : Nat, bestL s p j = b ∧ b < j ∧ s.pends p b = true ∧ ∀ k, k < j → s.pends p k = true → k ≠ b → s.lt p (b : Int) (k : Int)
  | 0 => .inl ⟨rfl, fun k hk => absurd hk (by omega)⟩
  | j + 1 => by
    unfold bestL
    rcases best_spec s p j with ⟨h1, h2⟩ | ⟨b, h1, h2, h3, h4⟩
    · by_cases hp : s.pends p j = true
      · right
        refine ⟨j, by rw [if_pos ⟨hp, .inl (by omega)⟩], by omega, hp, fun k hk hpk hne => ?_⟩
        rw [h2 k (by omega)] at hpk; cases hpk
      · left
        refine ⟨by rw [if_neg (fun h => hp h.1)]; exact h1, fun k hk => ?_⟩
        by_cases e : k = j
        · subst e; simpa using hp
        · exact h2 k (by omega)
    · right
      rw [h1]
      by_cases hp : s.pends p j = true ∧ s.tm j p < s.tm b p
      · refine ⟨j, by rw [if_pos ⟨hp.1, .inr (by rw [Int.toNat_natCast]; exact hp.2)⟩], by omega, hp.1, fun k hk hpk hne => ?_⟩
        unfold SNet.lt
        rw [Int.toNat_natCast, Int.toNat_natCast]
        by_cases e : k = b
        · subst e; left; exact hp.2
        · have := h4 k (by omega) hpk e
          unfold SNet.lt at this
          rw [Int.toNat_natCast, Int.toNat_natCast] at this
          have := hp.2
          omega
      · refine ⟨b, by rw [if_neg (fun h => hp ⟨h.1, by rcases h.2 with h | h; · omega
                                                       · rw [Int.toNat_natCast] at h; exact h⟩)], by omega, h3, fun k hk hpk hne => ?_⟩
        by_cases e : k = j
        · subst e
          unfold SNet.lt
          rw [Int.toNat_natCast, Int.toNat_natCast]
          have : ¬ s.tm k p < s.tm b p := fun h => hp ⟨hpk, h⟩
          omega
        · exact h4 k (by omega) hpk hne

/-- What stays true, but for what is to be taken at one node. -/
structure SPre (s : SNet) : Prop where
  n1 : 1 ≤ s.n
  n4 : s.n ≤ 4
  m20 : s.m ≤ 20
  clk0 : ∀ p, p < s.n → 0 ≤ s.clk p ∧ s.clk p ≤ cnt s
  tmH : ∀ p k, p < s.n → k < s.m → s.here k p = true → 1 ≤ s.tm k p ∧ s.tm k p ≤ s.clk p
  tm0 : ∀ p k, p < s.n → k < s.m → s.here k p = false → s.tm k p = 0 ∧ s.fix k p = false
  fixM : ∀ p q k, p < s.n → q < s.n → k < s.m → s.fix k p = true → s.here k q = true ∧ s.tm k q ≤ s.tm k p
  gotF : ∀ p, p < s.n → ∀ x ∈ s.got p, ∃ k : Nat, x = k ∧ k < s.m ∧ s.fix k p = true
  gotS : ∀ p, p < s.n → (s.got p).Pairwise (s.lt p)
  low : ∀ p k', p < s.n → k' < s.m → s.here k' p = true → (k' : Int) ∉ s.got p → ∀ x ∈ s.got p, s.lt p x (k' : Int)

/-- If a note is fixed and not had, one pends that is not fixed. -/
def SNet.waits (s : SNet) (p : Nat) : Prop := ∀ k, k < s.m → s.fix k p = true → (k : Int) ∉ s.got p → ∃ k', k' < s.m ∧ s.here k' p = true ∧ s.fix k' p = false

structure SInv (s : SNet) : Prop extends SPre s where
  pend : ∀ p, p < s.n → s.waits p

theorem SInv.start {n : Nat} (h1 : 1 ≤ n) (h4 : n ≤ 4) : SInv (SNet.init n) where
  n1 := h1
  n4 := h4
  m20 := Nat.zero_le _
  clk0 := fun _ _ => ⟨Int.le_refl _, (cnt_le _).1⟩
  tmH := fun _ _ _ hk _ => absurd hk (Nat.not_lt_zero _)
  tm0 := fun _ _ _ hk _ => absurd hk (Nat.not_lt_zero _)
  fixM := fun _ _ _ _ _ hk _ => absurd hk (Nat.not_lt_zero _)
  gotF := fun _ _ x hx => by cases hx
  gotS := fun _ _ => List.Pairwise.nil
  low := fun _ _ _ hk _ _ => absurd hk (Nat.not_lt_zero _)
  pend := fun _ _ _ hk _ _ => absurd hk (Nat.not_lt_zero _)

theorem SPre.got_lt {s : SNet} (h : SPre s) {p : Nat} (hp : p < s.n) {k : Nat} (hk : s.m ≤ k) : (k : Int) ∉ s.got p := fun hx => by
  obtain ⟨j, e, hj, _⟩ := h.gotF p hp _ hx
  omega

theorem SNet.lt_congr {s s' : SNet} {p : Nat} {x y : Int} (hx : s'.tm x.toNat p = s.tm x.toNat p) (hy : s'.tm y.toNat p = s.tm y.toNat p) (h : s.lt p x y) : s'.lt p x y := by
  unfold SNet.lt at *; rw [hx, hy]; exact h

theorem SInv.send {s : SNet} (h : SInv s) : SInv s.send := by
  unfold SNet.send
  by_cases e : s.m = 20
  · rw [if_pos e]; exact h
  rw [if_neg e]
  have hm := h.m20
  have et : ∀ k p, k < s.m → s.send0.tm k p = s.tm k p := fun k p hk => if_neg (by omega)
  have eh : ∀ k p, k < s.m → s.send0.here k p = s.here k p := fun k p hk => if_neg (by omega)
  have ef : ∀ k p, k < s.m → s.send0.fix k p = s.fix k p := fun k p hk => if_neg (by omega)
  have nt : ∀ p, s.send0.tm s.m p = 0 := fun p => if_pos rfl
  have nh : ∀ p, s.send0.here s.m p = false := fun p => if_pos rfl
  have nf : ∀ p, s.send0.fix s.m p = false := fun p => if_pos rfl
  have hc : cnt s.send0 = cnt s := by
    unfold cnt
    refine sum2_congr fun k p _ _ => ?_
    show (if k < s.m + 1 ∧ p < s.n ∧ s.send0.here k p = true then (1 : Int) else 0) = _
    by_cases e1 : k = s.m
    · subst e1
      rw [nh, if_neg (by simp), if_neg (by omega)]
    · by_cases e2 : k < s.m
      · rw [eh k p e2]
        have : (k < s.m + 1) ↔ (k < s.m) := by omega
        simp only [this]
      · rw [if_neg (by omega), if_neg (by omega)]
  have cl : ∀ k, k < s.m + 1 → k = s.m ∨ k < s.m := fun k hk => by omega
  exact {
    n1 := h.n1, n4 := h.n4
    m20 := show s.m + 1 ≤ 20 by omega
    clk0 := fun p hp => by rw [hc]; exact h.clk0 p hp
    tmH := fun p k hp hk hh => by
      rcases cl k hk with rfl | hk
      · rw [nh] at hh; cases hh
      · rw [eh k p hk] at hh; rw [et k p hk]; exact h.tmH p k hp hk hh
    tm0 := fun p k hp hk hh => by
      rcases cl k hk with rfl | hk
      · exact ⟨nt p, nf p⟩
      · rw [eh k p hk] at hh; rw [et k p hk, ef k p hk]; exact h.tm0 p k hp hk hh
    fixM := fun p q k hp hq hk hf => by
      rcases cl k hk with rfl | hk
      · rw [nf] at hf; cases hf
      · rw [ef k p hk] at hf; rw [eh k q hk, et k q hk, et k p hk]; exact h.fixM p q k hp hq hk hf
    gotF := fun p hp x hx => by
      obtain ⟨k, e1, e2, e3⟩ := h.gotF p hp x hx
      exact ⟨k, e1, show k < s.m + 1 by omega, by rw [ef k p e2]; exact e3⟩
    gotS := fun p hp => by
      refine List.Pairwise.imp_of_mem ?_ (h.gotS p hp)
      intro x y hx hy hl
      obtain ⟨k1, rfl, e2, _⟩ := h.gotF p hp x hx
      obtain ⟨k2, rfl, e3, _⟩ := h.gotF p hp y hy
      exact SNet.lt_congr (et _ _ (by rw [Int.toNat_natCast]; exact e2)) (et _ _ (by rw [Int.toNat_natCast]; exact e3)) hl
    low := fun p k' hp hk hh hn x hx => by
      rcases cl k' hk with rfl | hk
      · rw [nh] at hh; cases hh
      · rw [eh k' p hk] at hh
        obtain ⟨k1, rfl, e2, _⟩ := h.gotF p hp x hx
        exact SNet.lt_congr (et _ _ (by rw [Int.toNat_natCast]; exact e2)) (et _ _ (by rw [Int.toNat_natCast]; exact hk)) (h.low p k' hp hk hh hn _ hx)
    pend := fun p hp k hk hf hn => by
      rcases cl k hk with rfl | hk
      · rw [nf] at hf; cases hf
      · rw [ef k p hk] at hf
        obtain ⟨k', h1, h2, h3⟩ := h.pend p hp k hk hf hn
        exact ⟨k', show k' < s.m + 1 by omega, by rw [eh k' p h1]; exact h2, by rw [ef k' p h1]; exact h3⟩ }

theorem SInv.hear0 {s : SNet} (h : SInv s) {p k : Nat} (hp : p < s.n) (hk : k < s.m) (hh : s.here k p = false) : SInv (s.hear0 p k) := by
  have hfx := (h.tm0 p k hp hk hh).2
  have et : ∀ a b, a ≠ k ∨ b ≠ p → (s.hear0 p k).tm a b = s.tm a b := fun a b hab => put2_ne _ _ hab
  have eh : ∀ a b, a ≠ k ∨ b ≠ p → (s.hear0 p k).here a b = s.here a b := fun a b hab => put2_ne _ _ hab
  have ef : ∀ a b, (s.hear0 p k).fix a b = s.fix a b := fun a b => by
    show put2 s.fix k p false a b = _
    by_cases e : a = k ∧ b = p
    · obtain ⟨rfl, rfl⟩ := e; rw [put2_self, hfx]
    · exact put2_ne _ _ (by omega)
  have nt : (s.hear0 p k).tm k p = s.clk p + 1 := put2_self _ _ _ _
  have nh : (s.hear0 p k).here k p = true := put2_self _ _ _ _
  have nc : (s.hear0 p k).clk p = s.clk p + 1 := put1_self _ _ _
  have ec : ∀ b, b ≠ p → (s.hear0 p k).clk b = s.clk b := fun b hb => put1_ne _ _ hb
  have hm := h.m20
  have hn := h.n4
  have hc : cnt (s.hear0 p k) = cnt s + 1 := by
    unfold cnt
    have h1 := sum2_upd (n := 20) (p := k) (q := p) (f := fun k p => if k < s.m ∧ p < s.n ∧ s.here k p = true then (1 : Int) else 0) (g := fun a b => if a < s.m ∧ b < s.n ∧ (s.hear0 p k).here a b = true then (1 : Int) else 0) (by omega) (by omega) (fun a b _ _ hab => by
      simp only [eh a b hab])
    simp only [nh, hh] at h1
    rw [if_pos ⟨hk, hp, trivial⟩, if_neg (by simp)] at h1
    have h2 : sum2 20 (fun k_1 p_1 => if k_1 < (s.hear0 p k).m ∧ p_1 < (s.hear0 p k).n ∧ (s.hear0 p k).here k_1 p_1 = true then (1 : Int) else 0) = sum2 20 (fun a b => if a < s.m ∧ b < s.n ∧ (s.hear0 p k).here a b = true then (1 : Int) else 0) := rfl
    rw [h2]; omega
  have hnf : ∀ q, q < s.n → s.fix k q = false := fun q hq => by
    cases e : s.fix k q with
    | false => rfl
    | true => have := (h.fixM q p k hq hp hk e).1; rw [hh] at this; cases this
  have hg : ∀ q, q < s.n → (k : Int) ∉ s.got q := fun q hq hx => by
    obtain ⟨j, e1, _, e2⟩ := h.gotF q hq _ hx
    have e1 : k = j := by omega
    subst e1
    rw [hnf q hq] at e2; cases e2
  have hgt : ∀ q, q < s.n → ∀ x ∈ s.got q, (s.hear0 p k).tm x.toNat q = s.tm x.toNat q := fun q hq x hx => by
    obtain ⟨j, rfl, _, _⟩ := h.gotF q hq _ hx
    rw [Int.toNat_natCast]
    refine et _ _ (.inl fun e => ?_)
    subst e; exact hg q hq hx
  exact {
    n1 := h.n1, n4 := h.n4, m20 := h.m20
    clk0 := fun q hq => by
      rw [hc]
      have := h.clk0 q hq
      by_cases e : q = p
      · subst e; rw [nc]; omega
      · rw [ec q e]; omega
    tmH := fun q a hq ha hha => by
      by_cases e : a = k ∧ q = p
      · obtain ⟨rfl, rfl⟩ := e
        have := h.clk0 q hq
        rw [nt, nc]; omega
      · have hab : a ≠ k ∨ q ≠ p := by omega
        rw [eh a q hab] at hha
        have := h.tmH q a hq ha hha
        rw [et a q hab]
        by_cases e2 : q = p
        · subst e2; rw [nc]; omega
        · rw [ec q e2]; exact this
    tm0 := fun q a hq ha hha => by
      by_cases e : a = k ∧ q = p
      · obtain ⟨rfl, rfl⟩ := e
        rw [nh] at hha; cases hha
      · have hab : a ≠ k ∨ q ≠ p := by omega
        rw [eh a q hab] at hha
        rw [et a q hab, ef]; exact h.tm0 q a hq ha hha
    fixM := fun a b c ha hb hcm hf => by
      rw [ef] at hf
      have hck : c ≠ k := fun e => by subst e; rw [hnf a ha] at hf; cases hf
      rw [eh c b (.inl hck), et c b (.inl hck), et c a (.inl hck)]
      exact h.fixM a b c ha hb hcm hf
    gotF := fun q hq x hx => by
      obtain ⟨j, e1, e2, e3⟩ := h.gotF q hq x hx
      exact ⟨j, e1, e2, by rw [ef]; exact e3⟩
    gotS := fun q hq => by
      refine List.Pairwise.imp_of_mem ?_ (h.gotS q hq)
      intro x y hx hy hl
      exact SNet.lt_congr (hgt q hq x hx) (hgt q hq y hy) hl
    low := fun q a hq ha hha hna x hx => by
      by_cases e : a = k ∧ q = p
      · obtain ⟨rfl, rfl⟩ := e
        left
        rw [hgt q hq x hx, Int.toNat_natCast, nt]
        obtain ⟨j, rfl, e2, e3⟩ := h.gotF q hq x hx
        have h1 := (h.fixM q q j hq hq e2 e3).1
        have := (h.tmH q j hq e2 h1).2
        rw [Int.toNat_natCast]; omega
      · have hab : a ≠ k ∨ q ≠ p := by omega
        rw [eh a q hab] at hha
        exact SNet.lt_congr (hgt q hq x hx) (by rw [Int.toNat_natCast]; exact et a q hab) (h.low q a hq ha hha hna x hx)
    pend := fun q hq a ha hf hna => by
      rw [ef] at hf
      obtain ⟨k', h1, h2, h3⟩ := h.pend q hq a ha hf hna
      refine ⟨k', h1, ?_, by rw [ef]; exact h3⟩
      by_cases e : k' = k ∧ q = p
      · obtain ⟨rfl, rfl⟩ := e; exact nh
      · rw [eh k' q (by omega)]; exact h2 }

theorem SNet.hearErr0 {s : SNet} {p k : Int} (e : s.hearErr p k = 0) : ∃ a b : Nat, p = a ∧ k = b ∧ a < s.n ∧ b < s.m ∧ s.here b a = false := by
  unfold SNet.hearErr at e
  split at e
  · cases e
  · rename_i h1
    obtain ⟨a, b, rfl, rfl, ha, hb⟩ := (s.is_iff p k).1 (by simpa using h1)
    refine ⟨a, b, rfl, rfl, ha, hb, ?_⟩
    rw [Int.toNat_natCast, Int.toNat_natCast] at e
    cases e2 : s.here b a with
    | false => rfl
    | true => rw [e2, if_pos rfl] at e; cases e

theorem SInv.hear {s : SNet} (h : SInv s) (p k : Int) : SInv (s.hear p k) := by
  unfold SNet.hear
  split
  · rename_i e
    obtain ⟨a, b, rfl, rfl, ha, hb, hh⟩ := SNet.hearErr0 e
    exact h.hear0 ha hb hh
  · exact h

/-! ### Taking -/
theorem SPre.take1 {s : SNet} (h : SPre s) {p : Nat} (hp : p < s.n) (hs : ¬ s.stops p) : SPre (s.take1 p) ∧ (s.got p).length < s.m := by
  unfold SNet.stops at hs
  rcases best_spec s p s.m with ⟨h1, _⟩ | ⟨b, h1, h2, h3, h4⟩
  · exact absurd (.inl (by omega)) hs
  have hf : s.fix b p = true := by
    cases e : s.fix b p with
    | true => rfl
    | false => exact absurd (.inr (by rw [h1, Int.toNat_natCast]; exact e)) hs
  obtain ⟨h5, h6⟩ := (s.pends_iff p b).1 h3
  have ng : (s.take1 p).got p = s.got p ++ [(b : Int)] := by show put1 s.got p _ p = _; rw [put1_self, h1]
  have eg : ∀ q, q ≠ p → (s.take1 p).got q = s.got q := fun q hq => put1_ne _ _ hq
  have h8 : SPre (s.take1 p) := {
    n1 := h.n1, n4 := h.n4, m20 := h.m20, clk0 := h.clk0, tmH := h.tmH, tm0 := h.tm0, fixM := h.fixM
    gotF := fun q hq x hx => by
      by_cases e : q = p
      · subst e
        rw [ng, List.mem_append, List.mem_singleton] at hx
        rcases hx with hx | rfl
        · exact h.gotF q hq x hx
        · exact ⟨b, rfl, h2, hf⟩
      · rw [eg q e] at hx; exact h.gotF q hq x hx
    gotS := fun q hq => by
      by_cases e : q = p
      · subst e
        rw [ng, List.pairwise_append]
        refine ⟨h.gotS q hq, List.pairwise_singleton _ _, fun x hx y hy => ?_⟩
        rw [List.mem_singleton] at hy
        subst hy
        exact h.low q b hq h2 h5 h6 x hx
      · rw [eg q e]; exact h.gotS q hq
    low := fun q a hq ha hha hna x hx => by
      by_cases e : q = p
      · subst e
        rw [ng, List.mem_append, List.mem_singleton] at hx hna
        have hna1 : (a : Int) ∉ s.got q := fun hc => hna (.inl hc)
        have hna2 : a ≠ b := fun hc => hna (.inr (by rw [hc]))
        rcases hx with hx | rfl
        · exact h.low q a hq ha hha hna1 x hx
        · exact h4 a ha ((s.pends_iff q a).2 ⟨hha, hna1⟩) hna2
      · rw [eg q e] at hx hna; exact h.low q a hq ha hha hna x hx }
  refine ⟨h8, ?_⟩
  have h9 : ((s.take1 p).got p).length ≤ s.m := by
    have := nodup_le s.m (((s.take1 p).got p).map Int.toNat) ?_ (fun x hx => ?_)
    · rw [List.length_map] at this; exact this
    · rw [List.nodup_iff_pairwise_ne, List.pairwise_map]
      refine List.Pairwise.imp_of_mem ?_ (h8.gotS p hp)
      intro x y hx hy hl e
      obtain ⟨i, rfl, _⟩ := h8.gotF p hp x hx
      obtain ⟨j, rfl, _⟩ := h8.gotF p hp y hy
      rw [Int.toNat_natCast, Int.toNat_natCast] at e
      subst e; exact (s.take1 p).lt_irrefl p _ hl
    · obtain ⟨y, hy, rfl⟩ := List.mem_map.1 hx
      obtain ⟨j, rfl, hj, _⟩ := h8.gotF p hp y hy
      rw [Int.toNat_natCast]; exact hj
  rw [ng] at h9
  rw [List.length_append, List.length_singleton] at h9; omega

theorem SPre.got_le {s : SNet} (h8 : SPre s) {p : Nat} (hp : p < s.n) : (s.got p).length ≤ s.m := by
  have := nodup_le s.m ((s.got p).map Int.toNat) ?_ (fun x hx => ?_)
  · rw [List.length_map] at this; exact this
  · rw [List.nodup_iff_pairwise_ne, List.pairwise_map]
    refine List.Pairwise.imp_of_mem ?_ (h8.gotS p hp)
    intro x y hx hy hl e
    obtain ⟨i, rfl, _⟩ := h8.gotF p hp x hx
    obtain ⟨j, rfl, _⟩ := h8.gotF p hp y hy
    rw [Int.toNat_natCast, Int.toNat_natCast] at e
    subst e; exact s.lt_irrefl p _ hl
  · obtain ⟨y, hy, rfl⟩ := List.mem_map.1 hx
    obtain ⟨j, rfl, hj, _⟩ := h8.gotF p hp y hy
    rw [Int.toNat_natCast]; exact hj

/-- Where it stops all that is fixed is had, or one that is not fixed pends. -/
theorem SPre.stop {s : SNet} (h : SPre s) {p : Nat} (hp : p < s.n) (hs : s.stops p) : s.waits p := by
  intro k hk hf hn
  have hh := (h.fixM p p k hp hp hk hf).1
  have hpe := (s.pends_iff p k).2 ⟨hh, hn⟩
  rcases best_spec s p s.m with ⟨_, h2⟩ | ⟨b, h1, h2, h3, _⟩
  · rw [h2 k hk] at hpe; cases hpe
  · refine ⟨b, h2, ((s.pends_iff p b).1 h3).1, ?_⟩
    rcases hs with hs | hs
    · omega
    · rw [h1, Int.toNat_natCast] at hs; exact hs

/-- Two nets that are alike but for what p had. -/
structure Alike (p : Nat) (s s' : SNet) : Prop where
  n : s'.n = s.n
  m : s'.m = s.m
  clk : s'.clk = s.clk
  tm : s'.tm = s.tm
  here : s'.here = s.here
  fix : s'.fix = s.fix
  got : ∀ q, q ≠ p → s'.got q = s.got q

theorem Alike.refl (p : Nat) (s : SNet) : Alike p s s := ⟨rfl, rfl, rfl, rfl, rfl, rfl, fun _ _ => rfl⟩
theorem Alike.take1 {p : Nat} {s s' : SNet} (h : Alike p s s') : Alike p s (s'.take1 p) := ⟨h.n, h.m, h.clk, h.tm, h.here, h.fix, fun q hq => by show put1 s'.got p _ q = _; rw [put1_ne _ _ hq]; exact h.got q hq⟩

theorem takeN_spec (p : Nat) : ∀ (f : Nat) (s s0 : SNet), SPre s → p < s.n → Alike p s0 s → s.m < f + (s.got p).length → SPre (takeN p f s) ∧ Alike p s0 (takeN p f s) ∧ (takeN p f s).stops p
  | 0, s, s0, h, hp, ha, hm => absurd (h.got_le hp) (by omega)
  | f + 1, s, s0, h, hp, ha, hm => by
    unfold takeN
    split
    · rename_i hs; exact ⟨h, ha, hs⟩
    · rename_i hs
      obtain ⟨h1, h2⟩ := h.take1 hp hs
      refine takeN_spec p f (s.take1 p) s0 h1 hp ha.take1 ?_
      show s.m < f + (put1 s.got p (s.got p ++ [bestL s p s.m]) p).length
      rw [put1_self]; simp; omega

theorem SPre.takeAll {s : SNet} (h : SPre s) {p : Nat} (hp : p < s.n) (hw : ∀ q, q < s.n → q ≠ p → s.waits q) : SInv (s.takeAll p) ∧ Alike p s (s.takeAll p) := by
  obtain ⟨h1, h2, h3⟩ := takeN_spec p (s.m + 1) s s h hp (Alike.refl p s) (by omega)
  refine ⟨⟨h1, fun q hq => ?_⟩, h2⟩
  by_cases e : q = p
  · subst e; exact h1.stop hq h3
  · have hq' : q < s.n := by rw [← h2.n]; exact hq
    have := hw q hq' e
    unfold SNet.waits at *
    have e1 : (s.takeAll p).got q = s.got q := h2.got q e
    have e2 : (s.takeAll p).fix = s.fix := h2.fix
    have e3 : (s.takeAll p).here = s.here := h2.here
    have e4 : (s.takeAll p).m = s.m := h2.m
    show ∀ k, k < (s.takeAll p).m → (s.takeAll p).fix k q = true → (k : Int) ∉ (s.takeAll p).got q → ∃ k', k' < (s.takeAll p).m ∧ (s.takeAll p).here k' q = true ∧ (s.takeAll p).fix k' q = false
    rw [e1, e2, e3, e4]; exact this

theorem SInv.fix1 {s : SNet} (h : SInv s) {p k : Nat} (hp : p < s.n) (hk : k < s.m) (hh : allHere s k s.n = true) (hf : s.fix k p = false) : SPre (s.fix1 p k) ∧ ∀ q, q < s.n → q ≠ p → (s.fix1 p k).waits q := by
  have hall := (allHere_iff s k s.n).1 hh
  have hmost : ∀ q, q < s.n → s.tm k q ≤ mostL s k s.n := fun q hq => most_ge s k s.n q hq
  have hcb : mostL s k s.n ≤ cnt s := by
    rcases most_at s k s.n with e | ⟨q, hq, e⟩
    · rw [e]; exact (cnt_le s).1
    · rw [e]
      have h1 := (h.tmH q k hq hk (hall q hq)).2
      have h2 := (h.clk0 q hq).2
      omega
  have et : ∀ a b, a ≠ k ∨ b ≠ p → (s.fix1 p k).tm a b = s.tm a b := fun a b hab => put2_ne _ _ hab
  have ef : ∀ a b, a ≠ k ∨ b ≠ p → (s.fix1 p k).fix a b = s.fix a b := fun a b hab => put2_ne _ _ hab
  have nt : (s.fix1 p k).tm k p = mostL s k s.n := put2_self _ _ _ _
  have nf : (s.fix1 p k).fix k p = true := put2_self _ _ _ _
  have nc : (s.fix1 p k).clk p = max (s.clk p) (mostL s k s.n) := put1_self _ _ _
  have ec : ∀ b, b ≠ p → (s.fix1 p k).clk b = s.clk b := fun b hb => put1_ne _ _ hb
  have hc : cnt (s.fix1 p k) = cnt s := rfl
  have hle : ∀ q, q < s.n → ∀ a, s.tm a q ≤ (s.fix1 p k).tm a q := fun q hq a => by
    by_cases e : a = k ∧ q = p
    · obtain ⟨rfl, rfl⟩ := e; rw [nt]; exact hmost q hq
    · rw [et a q (by omega)]; exact Int.le_refl _
  have hnk : (k : Int) ∉ s.got p := fun hx => by
    obtain ⟨j, e1, _, e2⟩ := h.gotF p hp _ hx
    have e1 : k = j := by omega
    subst e1; rw [hf] at e2; cases e2
  have hgt : ∀ q, q < s.n → ∀ x ∈ s.got q, (s.fix1 p k).tm x.toNat q = s.tm x.toNat q := fun q hq x hx => by
    obtain ⟨j, rfl, _, _⟩ := h.gotF q hq _ hx
    rw [Int.toNat_natCast]
    refine et _ _ ?_
    by_cases e : j = k ∧ q = p
    · obtain ⟨rfl, rfl⟩ := e; exact absurd hx hnk
    · omega
  refine ⟨{
    n1 := h.n1, n4 := h.n4, m20 := h.m20
    clk0 := fun q hq => by
      rw [hc]
      have := h.clk0 q hq
      by_cases e : q = p
      · subst e; rw [nc]; omega
      · rw [ec q e]; exact this
    tmH := fun q a hq ha hha => by
      have h1 := h.tmH q a hq ha hha
      by_cases e : q = p
      · subst e
        rw [nc]
        by_cases e2 : a = k
        · subst e2; rw [nt]; have := hmost q hq; omega
        · rw [et a q (.inl e2)]; omega
      · rw [et a q (.inr e), ec q e]; exact h1
    tm0 := fun q a hq ha hha => by
      have hab : a ≠ k ∨ q ≠ p := by
        by_cases e : a = k ∧ q = p
        · obtain ⟨rfl, rfl⟩ := e
          have hha : s.here a q = false := hha
          rw [hall q hq] at hha; cases hha
        · omega
      rw [et a q hab, ef a q hab]; exact h.tm0 q a hq ha hha
    fixM := fun a b c ha hb hcm hfx => by
      by_cases e : c = k
      · subst e
        refine ⟨hall b hb, ?_⟩
        have hb1 : (s.fix1 p c).tm c b ≤ mostL s c s.n := by
          by_cases e2 : b = p
          · subst e2; rw [nt]; exact Int.le_refl _
          · rw [et c b (.inr e2)]; exact hmost b hb
        refine Int.le_trans hb1 ?_
        by_cases e2 : a = p
        · subst e2; rw [nt]; exact Int.le_refl _
        · rw [et c a (.inr e2)]
          rw [ef c a (.inr e2)] at hfx
          rcases most_at s c s.n with e3 | ⟨q, hq, e3⟩
          · rw [e3]; have := (h.tmH a c ha hcm (hall a ha)).1; omega
          · rw [e3]; exact (h.fixM a q c ha hq hcm hfx).2
      · rw [ef c a (.inl e)] at hfx
        rw [et c a (.inl e), et c b (.inl e)]
        exact h.fixM a b c ha hb hcm hfx
    gotF := fun q hq x hx => by
      obtain ⟨j, e1, e2, e3⟩ := h.gotF q hq x hx
      refine ⟨j, e1, e2, ?_⟩
      by_cases e : j = k ∧ q = p
      · obtain ⟨rfl, rfl⟩ := e; exact nf
      · rw [ef j q (by omega)]; exact e3
    gotS := fun q hq => by
      refine List.Pairwise.imp_of_mem ?_ (h.gotS q hq)
      intro x y hx hy hl
      exact SNet.lt_congr (hgt q hq x hx) (hgt q hq y hy) hl
    low := fun q a hq ha hha hna x hx => by
      have h1 := h.low q a hq ha hha hna x hx
      have h2 := hle q hq a
      have h3 := hgt q hq x hx
      unfold SNet.lt at *
      rw [h3]
      rw [Int.toNat_natCast] at *
      omega }, fun q hq hqp => ?_⟩
  intro a ha hfa hna
  rw [ef a q (.inr hqp)] at hfa
  obtain ⟨k', h1, h2, h3⟩ := h.pend q hq a ha hfa hna
  exact ⟨k', h1, h2, by rw [ef k' q (.inr hqp)]; exact h3⟩

theorem SNet.fixErr0 {s : SNet} {p k : Int} (e : s.fixErr p k = 0) : ∃ a b : Nat, p = a ∧ k = b ∧ a < s.n ∧ b < s.m ∧ allHere s b s.n = true ∧ s.fix b a = false := by
  unfold SNet.fixErr at e
  split at e
  · cases e
  · rename_i h1
    obtain ⟨a, b, rfl, rfl, ha, hb⟩ := (s.is_iff p k).1 (by simpa using h1)
    rw [Int.toNat_natCast, Int.toNat_natCast] at e
    split at e
    · cases e
    · rename_i h2
      split at e
      · cases e
      · rename_i h3
        exact ⟨a, b, rfl, rfl, ha, hb, by simpa using h2, by simpa using h3⟩

theorem SInv.fixIt {s : SNet} (h : SInv s) (p k : Int) : SInv (s.fixIt p k) := by
  unfold SNet.fixIt
  split
  · rename_i e
    obtain ⟨a, b, rfl, rfl, ha, hb, h1, h2⟩ := SNet.fixErr0 e
    obtain ⟨h3, h4⟩ := h.fix1 ha hb h1 h2
    exact (h3.takeAll (p := a) ha h4).1
  · exact h

end Go.Proofs.YtbindapfjghnaaaDoor
