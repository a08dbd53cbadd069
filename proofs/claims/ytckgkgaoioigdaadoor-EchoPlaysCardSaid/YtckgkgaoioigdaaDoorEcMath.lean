/-
  The wave that comes back, plain: what a step does, and what stays true.
  Conditions: none beyond those of each lemma.
-/
import Derived.Test.YtckgkgaoioigdaaDoorSum
namespace Go.Proofs.YtckgkgaoioigdaaDoor

/-- near, heard: sets, as bits; rank: how many were reached ahead of it (told of nobody). -/
structure Wv where
  n : Nat
  near : Nat → Nat
  parent : Nat → Int
  heard : Nat → Nat
  ways : Nat → Nat → Int
  sent : Int
  done : Bool
  rank : Nat → Nat

def Wv.nr (s : Wv) (p q : Nat) : Bool := (s.near p).testBit q
def Wv.hd (s : Wv) (p q : Nat) : Bool := (s.heard p).testBit q
def Wv.rd (s : Wv) (p : Nat) : Bool := decide (0 ≤ s.parent p)
def b2i (b : Bool) : Int := if b = true then 1 else 0
def Wv.cnt (s : Wv) : Int := sumN s.n fun p => b2i (s.rd p)

/-- One is spread to the first j. -/
def Wv.spreadTo (s : Wv) (p m : Nat) : Nat → Wv
  | 0 => s
  | j + 1 => if m.testBit j = true then { s.spreadTo p m j with ways := put2 (s.spreadTo p m j).ways p j ((s.spreadTo p m j).ways p j + 1), sent := (s.spreadTo p m j).sent + 1 } else s.spreadTo p m j
def Wv.spread (s : Wv) (p m : Nat) : Wv := s.spreadTo p m s.n
def Wv.back (s : Wv) (p : Nat) : Wv := if s.heard p ≠ s.near p then s else if p = 0 then { s with done := true } else s.spread p (2 ^ (s.parent p).toNat)
def Wv.is (s : Wv) (p q : Int) : Bool := decide (0 ≤ p) && decide (p ≤ (s.n : Int) - 1) && (decide (0 ≤ q) && decide (q ≤ (s.n : Int) - 1))
def Wv.stepErr (s : Wv) (p q : Int) : Int := if s.is p q = false then 1 else if s.ways p.toNat q.toNat = 0 then 5 else 0
def Wv.take (s : Wv) (p q : Nat) : Wv := { s with ways := put2 s.ways p q (s.ways p q - 1), heard := put1 s.heard q (s.heard q ||| 2 ^ p) }
def Wv.reach (s : Wv) (p q : Nat) : Wv := { s with parent := put1 s.parent q p, rank := put1 s.rank q s.cnt.toNat }
def Wv.but (s : Wv) (p q : Nat) : Nat := s.near q ^^^ (s.near q &&& 2 ^ p)
def Wv.step0 (s : Wv) (p q : Nat) : Wv := if s.parent q < 0 then (((s.take p q).reach p q).spread q (s.but p q)).back q else (s.take p q).back q
def Wv.step (s : Wv) (p q : Int) : Wv := if s.stepErr p q = 0 then s.step0 p.toNat q.toNat else s
def Wv.wayOf (s : Wv) (p q : Int) : Int := if s.is p q = true then s.ways p.toNat q.toNat else 0

theorem Wv.is_iff (s : Wv) (p k : Int) : s.is p k = true ↔ ∃ a b : Nat, p = a ∧ k = b ∧ a < s.n ∧ b < s.n := by
  unfold Wv.is
  simp only [Bool.and_eq_true, decide_eq_true_eq]
  constructor
  · rintro ⟨⟨h1, h2⟩, h3, h4⟩; exact ⟨p.toNat, k.toNat, by omega, by omega, by omega, by omega⟩
  · rintro ⟨a, b, rfl, rfl, h1, h2⟩; omega

theorem b2i_le (b : Bool) : 0 ≤ b2i b ∧ b2i b ≤ 1 := by cases b <;> simp [b2i]

/-! ### Spreading, in one line -/
theorem spreadTo_eq (s : Wv) (p m : Nat) : ∀ j, s.spreadTo p m j = { s with ways := fun a b => s.ways a b + (if a = p ∧ b < j then b2i (m.testBit b) else 0), sent := s.sent + sumN j fun b => b2i (m.testBit b) }
  | 0 => by
    show s = _
    have h1 : (fun a b => s.ways a b + (if a = p ∧ b < 0 then b2i (m.testBit b) else 0)) = s.ways := by
      funext a b; rw [if_neg (by omega)]; omega
    have h2 : s.sent + sumN 0 (fun b => b2i (m.testBit b)) = s.sent := by simp [sumN]
    rw [h1, h2]
  | j + 1 => by
    rw [Wv.spreadTo, spreadTo_eq s p m j]
    by_cases hb : m.testBit j = true
    · rw [if_pos hb]
      simp only []
      congr 1
      · funext a b
        by_cases e : a = p ∧ b = j
        · obtain ⟨rfl, rfl⟩ := e
          rw [put2_self, if_neg (by omega), if_pos (by omega), b2i, if_pos hb]; omega
        · rw [put2_ne _ _ (by omega)]
          by_cases e2 : a = p ∧ b < j
          · rw [if_pos e2, if_pos (by omega)]
          · rw [if_neg e2, if_neg (by omega)]
      · simp only [sumN]; rw [b2i, if_pos hb]; omega
    · rw [if_neg hb]
      congr 1
      · funext a b
        by_cases e : a = p ∧ b = j
        · obtain ⟨rfl, rfl⟩ := e
          rw [if_neg (by omega), if_pos (by omega), b2i, if_neg hb]
        · by_cases e2 : a = p ∧ b < j
          · rw [if_pos e2, if_pos (by omega)]
          · rw [if_neg e2, if_neg (by omega)]
      · simp only [sumN]; rw [b2i, if_neg hb]; omega

theorem spread_eq (s : Wv) (p m : Nat) : s.spread p m = { s with ways := fun a b => s.ways a b + (if a = p ∧ b < s.n then b2i (m.testBit b) else 0), sent := s.sent + sumN s.n fun b => b2i (m.testBit b) } := spreadTo_eq s p m s.n

theorem but_bit (s : Wv) (p q b : Nat) : (s.but p q).testBit b = (s.nr q b && decide (b ≠ p)) := by
  unfold Wv.but Wv.nr
  rw [Nat.testBit_xor, Nat.testBit_and, Nat.testBit_two_pow]
  by_cases e : p = b
  · subst e; cases (s.near q).testBit p <;> simp
  · have e' : ¬ b = p := fun h => e h.symm
    cases (s.near q).testBit b <;> simp [e, e']

/-! ### What a step does, in one line -/
/-- What q sends when it is reached by p, and what it sends back. -/
def Wv.fwd (s : Wv) (p q b : Nat) : Bool := decide (s.parent q < 0) && s.nr q b && decide (b ≠ p)
def Wv.all (s : Wv) (p q : Nat) : Bool := decide (s.heard q ||| 2 ^ p = s.near q)
def Wv.par (s : Wv) (p q : Nat) : Int := if s.parent q < 0 then p else s.parent q
def Wv.bck (s : Wv) (p q b : Nat) : Bool := s.all p q && decide (q ≠ 0) && decide ((b : Int) = s.par p q)

theorem pow_bit {x b : Nat} : b2i ((2 ^ x : Nat).testBit b) = b2i (decide (b = x)) := by
  rw [Nat.testBit_two_pow]
  by_cases e : x = b
  · subst e; rfl
  · have : ¬ b = x := fun h => e h.symm
    simp [e, this]

theorem back_ways (s : Wv) (q : Nat) (hp : q ≠ 0 → 0 ≤ s.parent q) (hn : s.n ≤ 5) : s.back q = { s with ways := fun a b => s.ways a b + (if a = q ∧ b < s.n then b2i (decide (s.heard q = s.near q) && decide (q ≠ 0) && decide ((b : Int) = s.parent q)) else 0), sent := s.sent + (sumN s.n fun b => b2i (decide (s.heard q = s.near q) && decide (q ≠ 0) && decide ((b : Int) = s.parent q))), done := s.done || (decide (s.heard q = s.near q) && decide (q = 0)) } := by
  unfold Wv.back
  have z : (fun a b => s.ways a b + (if a = q ∧ b < s.n then b2i false else 0)) = s.ways := by
    funext a b; simp [b2i]
  have z2 : s.sent + sumN s.n (fun _ => b2i false) = s.sent := by
    rw [sum_zero (f := fun _ => b2i false) (fun j _ => rfl)]; omega
  by_cases h1 : s.heard q = s.near q
  · rw [if_neg (fun h => h h1)]
    by_cases h2 : q = 0
    · rw [if_pos h2]
      have e0 : ∀ b : Nat, (decide (s.heard q = s.near q) && decide (q ≠ 0) && decide ((b : Int) = s.parent q)) = false := fun b => by simp [h2]
      simp only [e0]
      rw [z, z2]
      subst h2
      simp [h1]
    · rw [if_neg h2, spread_eq]
      have hpn := hp h2
      have e : ∀ b : Nat, b2i ((2 ^ (s.parent q).toNat : Nat).testBit b) = b2i (decide (s.heard q = s.near q) && decide (q ≠ 0) && decide ((b : Int) = s.parent q)) := fun b => by
        rw [pow_bit]
        have : (b = (s.parent q).toNat) ↔ ((b : Int) = s.parent q) := by omega
        simp [h1, h2, this]
      simp only [e]
      simp [h2]
  · rw [if_pos h1]
    simp only [h1, decide_false, Bool.false_and, Bool.or_false]
    rw [z, z2]

theorem step0_eq (s : Wv) (p q : Nat) (hn : s.n ≤ 5) : s.step0 p q = { s with
    ways := fun a b => put2 s.ways p q (s.ways p q - 1) a b + (if a = q ∧ b < s.n then b2i (s.fwd p q b) + b2i (s.bck p q b) else 0)
    heard := put1 s.heard q (s.heard q ||| 2 ^ p)
    parent := if s.parent q < 0 then put1 s.parent q p else s.parent
    rank := if s.parent q < 0 then put1 s.rank q s.cnt.toNat else s.rank
    sent := s.sent + ((sumN s.n fun b => b2i (s.fwd p q b)) + (sumN s.n fun b => b2i (s.bck p q b)))
    done := s.done || (s.all p q && decide (q = 0)) } := by
  unfold Wv.step0
  by_cases h : s.parent q < 0
  · rw [if_pos h, spread_eq, back_ways _ q (by intro _; show 0 ≤ put1 s.parent q p q; rw [put1_self]; omega) (by exact hn)]
    simp only [Wv.take, Wv.reach, put1_self, if_pos h]
    have e1 : ∀ b, b2i ((s.but p q).testBit b) = b2i (s.fwd p q b) := fun b => by rw [but_bit]; simp [Wv.fwd, h]
    have e2 : ∀ b : Nat, b2i (decide (s.heard q ||| 2 ^ p = s.near q) && decide (q ≠ 0) && decide ((b : Int) = (p : Int))) = b2i (s.bck p q b) := fun b => by simp [Wv.bck, Wv.all, Wv.par, h]
    have e3 : (⟨s.n, s.near, s.parent, put1 s.heard q (s.heard q ||| 2 ^ p), put2 s.ways p q (s.ways p q - 1), s.sent, s.done, s.rank⟩ : Wv).cnt = s.cnt := rfl
    simp only [e1, e2, e3]
    congr 1
    · funext a b
      by_cases hab : a = q ∧ b < s.n
      · rw [if_pos hab, if_pos hab, if_pos hab]; omega
      · rw [if_neg hab, if_neg hab, if_neg hab]; omega
    · omega
  · rw [if_neg h, back_ways _ q (by intro _; show 0 ≤ s.parent q; omega) (by exact hn)]
    simp only [Wv.take, put1_self, if_neg h]
    have e1 : ∀ b, b2i (s.fwd p q b) = 0 := fun b => by simp [Wv.fwd, h, b2i]
    have e2 : ∀ b : Nat, b2i (decide (s.heard q ||| 2 ^ p = s.near q) && decide (q ≠ 0) && decide ((b : Int) = s.parent q)) = b2i (s.bck p q b) := fun b => by simp [Wv.bck, Wv.all, Wv.par, h]
    simp only [e1, e2, Int.zero_add]
    congr 1
    · funext a b
      by_cases hab : a = q ∧ b < s.n
      · rw [if_pos hab, if_pos hab]; exact congrArg _ (e2 b)
      · rw [if_neg hab, if_neg hab]
    · have h5 := sum_congr (n := s.n) (fun j _ => e2 j)
      have h6 : sumN s.n (fun _ => (0 : Int)) = 0 := sum_zero (fun _ _ => rfl)
      rw [h6, Int.zero_add]
      exact congrArg _ h5

/-! ### What stays true -/
def Wv.snt (s : Wv) (p q : Nat) : Bool := s.nr p q && s.rd p && (decide (s.parent p ≠ q) || decide (s.heard p = s.near p))

structure Net (n : Nat) (near : Nat → Nat) : Prop where
  n1 : 1 ≤ n
  n5 : n ≤ 5
  lt : ∀ p, p < n → near p < 2 ^ n
  sym : ∀ p q, p < n → q < n → (near p).testBit q = (near q).testBit p
  irr : ∀ p, p < n → (near p).testBit p = false
  conn : ∀ A : Nat → Prop, A 0 → (∀ p q, p < n → q < n → A p → (near p).testBit q = true → A q) → ∀ p, p < n → A p

structure EInv (s : Wv) : Prop where
  net : Net s.n s.near
  par0 : s.parent 0 = 0
  par : ∀ p, p < s.n → p ≠ 0 → 0 ≤ s.parent p → ∃ a : Nat, s.parent p = a ∧ a < s.n ∧ s.nr a p = true ∧ s.rd a = true ∧ s.rank a < s.rank p
  parN : ∀ p, p < s.n → s.parent p < 0 → s.parent p = -1
  rnk : ∀ p, p < s.n → s.rd p = true → (s.rank p : Int) < s.cnt
  acc : ∀ p q, p < s.n → q < s.n → b2i (s.snt p q) = b2i (s.hd q p) + s.ways p q
  way0 : ∀ p q, p < s.n → q < s.n → 0 ≤ s.ways p q
  hdR : ∀ p q, p < s.n → s.hd p q = true → s.rd p = true
  hdL : ∀ p, p < s.n → s.heard p < 2 ^ s.n
  sentI : s.sent = sum2 s.n fun p q => b2i (s.snt p q)
  doneI : s.done = decide (s.heard 0 = s.near 0)

theorem EInv.hdS {s : Wv} (h : EInv s) {p q : Nat} (hp : p < s.n) (hq : q < s.n) (hh : s.hd p q = true) : s.snt q p = true := by
  have h1 := h.acc q p hq hp
  have h2 := h.way0 q p hq hp
  rw [hh] at h1
  cases e : s.snt q p with
  | true => rfl
  | false => rw [e] at h1; simp [b2i] at h1; omega

theorem snt_nr {s : Wv} {p q : Nat} (h : s.snt p q = true) : s.nr p q = true ∧ s.rd p = true := by
  unfold Wv.snt at h
  simp only [Bool.and_eq_true] at h
  exact h.1

theorem bits_eq {n x y : Nat} (hx : x < 2 ^ n) (hy : y < 2 ^ n) (h : ∀ q, q < n → x.testBit q = y.testBit q) : x = y := by
  apply Nat.eq_of_testBit_eq
  intro i
  by_cases hi : i < n
  · exact h i hi
  · rw [Nat.testBit_lt_two_pow (Nat.lt_of_lt_of_le hx (Nat.pow_le_pow_right (by omega) (by omega))), Nat.testBit_lt_two_pow (Nat.lt_of_lt_of_le hy (Nat.pow_le_pow_right (by omega) (by omega)))]

/-- What is heard is near. -/
theorem EInv.hdN {s : Wv} (h : EInv s) {p q : Nat} (hp : p < s.n) (hq : q < s.n) (hh : s.hd p q = true) : s.nr p q = true := by
  have := (snt_nr (h.hdS hp hq hh)).1
  unfold Wv.nr at *
  rw [h.net.sym p q hp hq]; exact this

/-- What comes was sent, and not heard yet. -/
theorem EInv.way1 {s : Wv} (h : EInv s) {p q : Nat} (hp : p < s.n) (hq : q < s.n) (hw : s.ways p q ≠ 0) : s.snt p q = true ∧ s.hd q p = false ∧ s.ways p q = 1 ∧ p ≠ q := by
  have h1 := h.acc p q hp hq
  have h2 := h.way0 p q hp hq
  have h3 := b2i_le (s.snt p q)
  have h4 := b2i_le (s.hd q p)
  have hs : s.snt p q = true := by
    cases e : s.snt p q with
    | true => rfl
    | false => rw [e] at h1; simp [b2i] at h1; split at h1 <;> omega
  refine ⟨hs, ?_, by omega, fun e => ?_⟩
  · cases e : s.hd q p with
    | false => rfl
    | true => rw [e, hs] at h1; simp [b2i] at h1; omega
  · subst e
    have := (snt_nr hs).1
    unfold Wv.nr at this
    rw [h.net.irr p hp] at this; cases this

end Go.Proofs.YtckgkgaoioigdaaDoor
