/-
  The wave that comes back, plain: what stays true through a step.
  Conditions: none beyond those of each lemma.
-/
import Derived.Test.YtckgkgaoioigdaaDoorEcMath
namespace Go.Proofs.YtckgkgaoioigdaaDoor

structure StepTo (s s' : Wv) (p q : Nat) : Prop where
  n : s'.n = s.n
  near : s'.near = s.near
  heard : s'.heard = put1 s.heard q (s.heard q ||| 2 ^ p)
  parent : s'.parent = if s.parent q < 0 then put1 s.parent q p else s.parent
  rank : s'.rank = if s.parent q < 0 then put1 s.rank q s.cnt.toNat else s.rank
  ways : ∀ a b, s'.ways a b = put2 s.ways p q (s.ways p q - 1) a b + (if a = q ∧ b < s.n then b2i (s.fwd p q b) + b2i (s.bck p q b) else 0)
  sent : s'.sent = s.sent + ((sumN s.n fun b => b2i (s.fwd p q b)) + (sumN s.n fun b => b2i (s.bck p q b)))
  done : s'.done = (s.done || (s.all p q && decide (q = 0)))

theorem step0_to (s : Wv) (p q : Nat) (hn : s.n ≤ 5) : StepTo s (s.step0 p q) p q := by
  rw [step0_eq s p q hn]
  exact ⟨rfl, rfl, rfl, rfl, rfl, fun _ _ => rfl, rfl, rfl⟩

section
variable {s s' : Wv} {p q : Nat}

theorem StepTo.hd (t : StepTo s s' p q) (a b : Nat) : s'.hd b a = (s.hd b a || (decide (b = q) && decide (a = p))) := by
  unfold Wv.hd
  rw [t.heard]
  by_cases e : b = q
  · subst e
    rw [put1_self, Nat.testBit_or, Nat.testBit_two_pow]
    by_cases e2 : a = p
    · subst e2; simp
    · have : ¬ p = a := fun h => e2 h.symm
      simp [e2, this]
  · rw [put1_ne _ _ e]; simp [e]
theorem StepTo.nr (t : StepTo s s' p q) (a b : Nat) : s'.nr a b = s.nr a b := by unfold Wv.nr; rw [t.near]
theorem StepTo.parent_ne (t : StepTo s s' p q) {a : Nat} (h : a ≠ q) : s'.parent a = s.parent a := by
  rw [t.parent]; split
  · exact put1_ne _ _ h
  · rfl
theorem StepTo.parent_at (t : StepTo s s' p q) : s'.parent q = s.par p q := by
  rw [t.parent]; unfold Wv.par; split
  · exact put1_self _ _ _
  · rfl
theorem StepTo.rank_ne (t : StepTo s s' p q) {a : Nat} (h : a ≠ q ∨ 0 ≤ s.parent q) : s'.rank a = s.rank a := by
  rw [t.rank]; split
  · exact put1_ne _ _ (by omega)
  · rfl
theorem StepTo.rd_at (t : StepTo s s' p q) : s'.rd q = true := by
  unfold Wv.rd; rw [t.parent_at, decide_eq_true_eq]; unfold Wv.par; split <;> omega
theorem StepTo.rd_ne (t : StepTo s s' p q) {a : Nat} (h : a ≠ q) : s'.rd a = s.rd a := by unfold Wv.rd; rw [t.parent_ne h]
theorem StepTo.rd_mono (t : StepTo s s' p q) {a : Nat} (h : s.rd a = true) : s'.rd a = true := by
  by_cases e : a = q
  · subst e; exact t.rd_at
  · rw [t.rd_ne e]; exact h
/-- Who was reached keeps its parent, and its rank. -/
theorem StepTo.par_keep (t : StepTo s s' p q) {a : Nat} (h : s.rd a = true) : s'.parent a = s.parent a ∧ s'.rank a = s.rank a := by
  unfold Wv.rd at h
  rw [decide_eq_true_eq] at h
  by_cases e : a = q
  · subst e
    refine ⟨?_, t.rank_ne (.inr h)⟩
    rw [t.parent, if_neg (by omega)]
  · exact ⟨t.parent_ne e, t.rank_ne (.inl e)⟩

theorem StepTo.cnt (t : StepTo s s' p q) (hq : q < s.n) : s'.cnt = s.cnt + (if s.parent q < 0 then 1 else 0) := by
  unfold Wv.cnt
  rw [t.n]
  have h1 := sum_upd (n := s.n) (f := fun a => b2i (s.rd a)) (g := fun a => b2i (s'.rd a)) hq (fun j _ hj => by simp only [t.rd_ne hj])
  rw [h1]
  simp only [t.rd_at]
  unfold Wv.rd
  by_cases h : s.parent q < 0
  · rw [if_pos h, decide_eq_false (by omega)]; simp [b2i]
  · rw [if_neg h, decide_eq_true (by omega)]; simp [b2i]

/-- What is sent, behind a step. -/
theorem StepTo.snt (t : StepTo s s' p q) (h : EInv s) (hp : p < s.n) (hq : q < s.n) (hw : s.ways p q ≠ 0) {a b : Nat} (ha : a < s.n) (hb : b < s.n) :
    b2i (s'.snt a b) = b2i (s.snt a b) + (if a = q then b2i (s.fwd p q b) + b2i (s.bck p q b) else 0) := by
  obtain ⟨h1, h2, h3, hpq⟩ := h.way1 hp hq hw
  by_cases e : a = q
  · subst e
    rw [if_pos rfl]
    have hnr : s.nr a p = true := by
      have := (snt_nr h1).1
      unfold Wv.nr at *
      rw [h.net.sym a p hq hp]; exact this
    have hold : decide (s.heard a = s.near a) = false := by
      rw [decide_eq_false_iff_not]
      intro e
      unfold Wv.hd at h2
      unfold Wv.nr at hnr
      rw [e, hnr] at h2; cases h2
    have hnew : decide (s'.heard a = s'.near a) = s.all p a := by
      unfold Wv.all; rw [t.heard, t.near, put1_self]
    unfold Wv.snt
    rw [t.nr, t.rd_at, t.parent_at, hnew, hold]
    unfold Wv.fwd Wv.bck Wv.par Wv.rd
    by_cases hu : s.parent a < 0
    · have h0 : a ≠ 0 := fun e => by subst e; rw [h.par0] at hu; omega
      have hr : ¬ 0 ≤ s.parent a := by omega
      by_cases ebp : b = p
      · subst ebp
        simp [hu, hr, hnr, h0, b2i]
      · have : ¬ (p : Int) = b := by omega
        have h5 : ¬ (b : Int) = p := by omega
        cases hh : s.nr a b <;> simp [hu, hr, ebp, this, h5, b2i]
    · have hr : 0 ≤ s.parent a := by omega
      by_cases ebp : (b : Int) = s.parent a
      · have h5 : s.parent a = b := ebp.symm
        by_cases h0 : a = 0
        · subst h0
          have hb0 : b = 0 := by rw [h.par0] at h5; omega
          subst hb0
          have : s.nr 0 0 = false := h.net.irr 0 ha
          simp [this, hu, b2i]
        · obtain ⟨c, e1, e2, e3, _, _⟩ := h.par a ha h0 hr
          have : c = b := by omega
          subst this
          have hn : s.nr a c = true := by
            unfold Wv.nr at *
            rw [h.net.sym a c ha e2]; exact e3
          have hc0 : ¬ (c : Int) < 0 := by omega
          simp [hn, hc0, h0, h5, b2i]
      · have h5 : ¬ s.parent a = b := fun e => ebp e.symm
        cases hh : s.nr a b <;> simp [hu, hr, ebp, h5, b2i]
  · rw [if_neg e]
    have e1 : s'.heard a = s.heard a := by rw [t.heard, put1_ne _ _ e]
    unfold Wv.snt
    rw [t.nr, t.rd_ne e, t.parent_ne e, e1, t.near]; omega

theorem StepTo.inv (t : StepTo s s' p q) (h : EInv s) (hp : p < s.n) (hq : q < s.n) (hw : s.ways p q ≠ 0) : EInv s' := by
  obtain ⟨h1, h2, h3, hpq⟩ := h.way1 hp hq hw
  have hsnt := fun a b (ha : a < s.n) (hb : b < s.n) => t.snt h hp hq hw ha hb
  have hcnt := t.cnt hq
  have hc0 : 0 ≤ s.cnt := sum_nonneg fun j _ => (b2i_le _).1
  have hrp := (snt_nr h1).2
  refine {
    net := by rw [t.n, t.near]; exact h.net
    par0 := ?_
    par := fun a ha h0 hr => ?_
    parN := fun a ha hr => ?_
    rnk := fun a ha hr => ?_
    acc := fun a b ha hb => ?_
    way0 := fun a b ha hb => ?_
    hdR := fun a b ha hh => ?_
    hdL := fun a ha => ?_
    sentI := ?_
    doneI := ?_ }
  · by_cases e : 0 = q
    · subst e
      rw [t.parent, if_neg (by rw [h.par0]; omega)]; exact h.par0
    · rw [t.parent_ne e]; exact h.par0
  · rw [t.n] at ha
    by_cases e : a = q ∧ s.parent q < 0
    · obtain ⟨rfl, hu⟩ := e
      refine ⟨p, ?_, by rw [t.n]; exact hp, by rw [t.nr]; exact (snt_nr h1).1, t.rd_mono hrp, ?_⟩
      · rw [t.parent_at]; unfold Wv.par; rw [if_pos hu]
      · have h5 := h.rnk p hp hrp
        rw [t.rank_ne (.inl hpq), t.rank, if_pos hu, put1_self]; omega
    · have hra : s.rd a = true := by
        by_cases e2 : a = q
        · subst e2
          unfold Wv.rd; rw [decide_eq_true_eq]; omega
        · unfold Wv.rd; rw [decide_eq_true_eq, ← t.parent_ne e2]; exact hr
      obtain ⟨k1, k2⟩ := t.par_keep hra
      have hra' : 0 ≤ s.parent a := by unfold Wv.rd at hra; simpa using hra
      obtain ⟨c, e1, e2, e3, e4, e5⟩ := h.par a ha h0 hra'
      refine ⟨c, by rw [k1]; exact e1, by rw [t.n]; exact e2, by rw [t.nr]; exact e3, t.rd_mono e4, ?_⟩
      rw [(t.par_keep e4).2, k2]; exact e5
  · rw [t.n] at ha
    by_cases e : a = q
    · subst e
      have := t.rd_at
      unfold Wv.rd at this
      rw [decide_eq_true_eq] at this; omega
    · rw [t.parent_ne e] at hr ⊢; exact h.parN a ha hr
  · rw [t.n] at ha
    rw [hcnt]
    by_cases e : a = q ∧ s.parent q < 0
    · obtain ⟨rfl, hu⟩ := e
      rw [t.rank, if_pos hu, put1_self, if_pos hu]; omega
    · have hra : s.rd a = true := by
        by_cases e2 : a = q
        · subst e2
          unfold Wv.rd; rw [decide_eq_true_eq]; omega
        · rw [← t.rd_ne e2]; exact hr
      rw [(t.par_keep hra).2]
      have := h.rnk a ha hra
      split <;> omega
  · rw [t.n] at ha hb
    rw [hsnt a b ha hb, t.hd, t.ways, h.acc a b ha hb]
    by_cases e : a = p ∧ b = q
    · obtain ⟨rfl, rfl⟩ := e
      rw [put2_self, if_neg hpq, if_neg (fun hh => hpq hh.1), h2, h3]
      simp [b2i]
    · rw [put2_ne _ _ (by omega)]
      have : (decide (b = q) && decide (a = p)) = false := by
        rw [Bool.and_eq_false_iff, decide_eq_false_iff_not, decide_eq_false_iff_not]; omega
      rw [this, Bool.or_false]
      by_cases e2 : a = q
      · rw [if_pos e2, if_pos ⟨e2, hb⟩]; omega
      · rw [if_neg e2, if_neg (fun hh => e2 hh.1)]; omega
  · rw [t.n] at ha hb
    rw [t.ways]
    have k1 := (b2i_le (s.fwd p q b)).1
    have k2 := (b2i_le (s.bck p q b)).1
    have k3 := h.way0 a b ha hb
    by_cases e : a = p ∧ b = q
    · obtain ⟨rfl, rfl⟩ := e
      rw [put2_self, h3]; split <;> omega
    · rw [put2_ne _ _ (by omega)]; split <;> omega
  · rw [t.n] at ha
    by_cases e : a = q
    · subst e; exact t.rd_at
    · rw [t.hd] at hh
      have : (decide (a = q) && decide (b = p)) = false := by simp [e]
      rw [this, Bool.or_false] at hh
      rw [t.rd_ne e]; exact h.hdR a b ha hh
  · rw [t.n] at ha ⊢
    rw [t.heard]
    by_cases e : a = q
    · subst e
      rw [put1_self]
      exact Nat.or_lt_two_pow (h.hdL a ha) (Nat.pow_lt_pow_right (by omega) hp)
    · rw [put1_ne _ _ e]; exact h.hdL a ha
  · rw [t.sent, t.n, h.sentI]
    unfold sum2
    have k1 := sum_upd (n := s.n) (f := fun a => sumN s.n fun b => b2i (s.snt a b)) (g := fun a => sumN s.n fun b => b2i (s'.snt a b)) hq (fun a ha hne => sum_congr fun b hb => by rw [hsnt a b ha hb, if_neg hne]; omega)
    have k2 : sumN s.n (fun b => b2i (s'.snt q b)) = sumN s.n (fun b => b2i (s.snt q b)) + ((sumN s.n fun b => b2i (s.fwd p q b)) + (sumN s.n fun b => b2i (s.bck p q b))) := by
      rw [← sum_add, ← sum_add]
      exact sum_congr fun b hb => by rw [hsnt q b hq hb, if_pos rfl]
    rw [k1]
    simp only [k2]
    omega
  · rw [t.done, t.heard, t.near, h.doneI]
    by_cases e : q = 0
    · subst e
      have hnr : s.nr 0 p = true := by
        have := (snt_nr h1).1
        unfold Wv.nr at *
        rw [h.net.sym 0 p hq hp]; exact this
      have hold : ¬ s.heard 0 = s.near 0 := by
        intro e
        unfold Wv.hd at h2
        unfold Wv.nr at hnr
        rw [e, hnr] at h2; cases h2
      rw [put1_self]
      unfold Wv.all
      simp [hold]
    · rw [put1_ne _ _ (fun h => e h.symm)]
      simp [e]

end

theorem Wv.stepErr0 {s : Wv} {p q : Int} (e : s.stepErr p q = 0) : ∃ a b : Nat, p = a ∧ q = b ∧ a < s.n ∧ b < s.n ∧ s.ways a b ≠ 0 := by
  unfold Wv.stepErr at e
  split at e
  · cases e
  · rename_i h1
    obtain ⟨a, b, rfl, rfl, ha, hb⟩ := (s.is_iff p q).1 (by simpa using h1)
    refine ⟨a, b, rfl, rfl, ha, hb, fun h => ?_⟩
    rw [Int.toNat_natCast, Int.toNat_natCast, if_pos h] at e; cases e

theorem EInv.step {s : Wv} (h : EInv s) (p q : Int) : EInv (s.step p q) := by
  unfold Wv.step
  split
  · rename_i e
    obtain ⟨a, b, rfl, rfl, ha, hb, hw⟩ := Wv.stepErr0 e
    rw [Int.toNat_natCast, Int.toNat_natCast]
    exact (step0_to s a b h.net.n5).inv h ha hb hw
  · exact h

theorem Wv.step_n (s : Wv) (p q : Int) (hn : s.n ≤ 5) : (s.step p q).n = s.n ∧ (s.step p q).near = s.near := by
  unfold Wv.step
  split
  · exact ⟨(step0_to s _ _ hn).n, (step0_to s _ _ hn).near⟩
  · exact ⟨rfl, rfl⟩

/-! ### The beginning -/
def Wv.blank (n : Nat) (near : Nat → Nat) : Wv := ⟨n, near, fun p => if p = 0 then 0 else -1, fun _ => 0, fun _ _ => 0, 0, false, fun _ => 0⟩
def Wv.init (n : Nat) (near : Nat → Nat) : Wv := ((Wv.blank n near).spread 0 (near 0)).back 0

theorem init_inv {n : Nat} {near : Nat → Nat} (h : Net n near) : EInv (Wv.init n near) := by
  have h1 := h.n1
  have e : Wv.init n near = { Wv.blank n near with ways := fun a b => if a = 0 ∧ b < n then b2i ((near 0).testBit b) else 0, sent := sumN n fun b => b2i ((near 0).testBit b), done := decide (0 = near 0) } := by
    unfold Wv.init
    rw [spread_eq]
    unfold Wv.back
    by_cases e : 0 = near 0
    · refine Eq.trans (if_neg (fun hh => hh e)) (Eq.trans (if_pos rfl) ?_)
      rw [decide_eq_true e]
      simp only [Wv.blank, Int.zero_add]
      rfl
    · refine Eq.trans (if_pos e) ?_
      rw [decide_eq_false e]
      simp only [Wv.blank, Int.zero_add]
      rfl
  rw [e]
  have hrd : ∀ p, p ≠ 0 → (Wv.blank n near).rd p = false := fun p hp => by unfold Wv.rd Wv.blank; simp [hp]
  have hrd0 : (Wv.blank n near).rd 0 = true := by unfold Wv.rd Wv.blank; simp
  have hsnt : ∀ p q, p < n → q < n → (⟨n, near, fun p => if p = 0 then 0 else -1, fun _ => 0, fun a b => if a = 0 ∧ b < n then b2i ((near 0).testBit b) else 0, sumN n fun b => b2i ((near 0).testBit b), decide (0 = near 0), fun _ => 0⟩ : Wv).snt p q = (decide (p = 0) && (near 0).testBit q) := fun p q hp hq => by
    unfold Wv.snt Wv.nr Wv.rd
    by_cases e0 : p = 0
    · subst e0
      by_cases eq0 : q = 0
      · subst eq0; simp [h.irr 0 hp]
      · have : ¬ (0 : Int) = q := by omega
        simp [this]
    · simp [e0]
  exact {
    net := h
    par0 := rfl
    par := fun p hp h0 hr => by
      have : (Wv.blank n near).parent p = -1 := if_neg h0
      have hr : 0 ≤ (Wv.blank n near).parent p := hr
      omega
    parN := fun p hp hr => by
      by_cases e : p = 0
      · subst e; exact absurd hr (by show ¬ (0 : Int) < 0; omega)
      · exact if_neg e
    rnk := fun p hp hr => by
      have hge := sum_ge (n := n) (f := fun p => b2i ((Wv.blank n near).rd p)) (p := 0) (fun j _ => (b2i_le _).1) (by omega)
      rw [hrd0] at hge
      show ((0 : Nat) : Int) < sumN n fun p => b2i ((Wv.blank n near).rd p)
      simp [b2i] at hge ⊢; omega
    acc := fun p q hp hq => by
      have e1 := hsnt p q hp hq
      show b2i (Wv.snt _ p q) = b2i (Nat.testBit 0 p) + (if p = 0 ∧ q < n then b2i ((near 0).testBit q) else 0)
      refine (congrArg b2i e1).trans ?_
      rw [Nat.zero_testBit]
      by_cases e0 : p = 0
      · rw [if_pos ⟨e0, hq⟩]; simp [e0, b2i]
      · rw [if_neg (fun hh => e0 hh.1)]; simp [e0, b2i]
    way0 := fun p q hp hq => by
      show 0 ≤ (if p = 0 ∧ q < n then b2i ((near 0).testBit q) else 0)
      split
      · exact (b2i_le _).1
      · omega
    hdR := fun p q hp hh => by
      have hh : Nat.testBit 0 q = true := hh
      rw [Nat.zero_testBit] at hh; cases hh
    hdL := fun p hp => Nat.pow_pos (by omega)
    sentI := by
      show (sumN n fun b => b2i ((near 0).testBit b)) = sum2 n _
      unfold sum2
      have k := sum_upd (n := n) (p := 0) (f := fun _ => (0 : Int)) (g := fun p => sumN n fun q => b2i (Wv.snt ⟨n, near, fun p => if p = 0 then 0 else -1, fun _ => 0, fun a b => if a = 0 ∧ b < n then b2i ((near 0).testBit b) else 0, sumN n fun b => b2i ((near 0).testBit b), decide (0 = near 0), fun _ => 0⟩ p q)) (by omega) (fun j hj hne => by
        refine sum_zero fun q hq => ?_
        refine (congrArg b2i (hsnt j q hj hq)).trans ?_
        simp [hne, b2i])
      have k0 : sumN n (fun _ => (0 : Int)) = 0 := sum_zero fun _ _ => rfl
      have k1 : sumN n (fun q => b2i (Wv.snt ⟨n, near, fun p => if p = 0 then 0 else -1, fun _ => 0, fun a b => if a = 0 ∧ b < n then b2i ((near 0).testBit b) else 0, sumN n fun b => b2i ((near 0).testBit b), decide (0 = near 0), fun _ => 0⟩ 0 q)) = sumN n fun b => b2i ((near 0).testBit b) := sum_congr fun q hq => by
        refine (congrArg b2i (hsnt 0 q (by omega) hq)).trans ?_
        simp
      rw [k0] at k
      refine Eq.trans ?_ k.symm
      simp only [k1]
      omega
    doneI := rfl }

end Go.Proofs.YtckgkgaoioigdaaDoor
