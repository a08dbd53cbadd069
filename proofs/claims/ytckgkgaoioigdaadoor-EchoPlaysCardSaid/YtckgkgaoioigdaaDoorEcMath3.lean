/-
  The wave that comes back, plain: it comes back, and then it was everywhere.
  Conditions: none beyond those of each lemma.
-/
import Derived.Test.YtckgkgaoioigdaaDoorEcMath2
namespace Go.Proofs.YtckgkgaoioigdaaDoor

theorem sum_all {f : Nat → Bool} : ∀ {n : Nat}, (n : Int) ≤ sumN n (fun j => b2i (f j)) → ∀ j, j < n → f j = true
  | n + 1, h, j, hj => by
    simp only [sumN] at h
    have h1 := sum_le (n := n) (f := fun j => b2i (f j)) (g := fun _ => 1) (fun j _ => (b2i_le _).2)
    rw [sum_const] at h1
    have h2 := (b2i_le (f n)).2
    by_cases e : j = n
    · subst e
      cases e : f j with
      | true => rfl
      | false => rw [e] at h; simp [b2i] at h h1; omega
    · exact sum_all (n := n) (by omega) j (by omega)

theorem sum_one {f g : Nat → Int} {p : Nat} : ∀ {n : Nat}, (∀ j, j < n → f j ≤ g j) → p < n → f p + 1 ≤ g p → sumN n f + 1 ≤ sumN n g
  | n + 1, h, hp, h1 => by
    simp only [sumN]
    by_cases e : p = n
    · subst e
      have := sum_le (n := p) (f := f) (g := g) (fun j hj => h j (by omega))
      omega
    · have := sum_one (n := n) (fun j hj => h j (by omega)) (by omega) h1
      have := h n (by omega)
      omega

/-- What was stays. -/
structure Mono (s s' : Wv) : Prop where
  n : s'.n = s.n
  near : s'.near = s.near
  rd : ∀ p, s.rd p = true → s'.rd p = true ∧ s'.parent p = s.parent p ∧ s'.rank p = s.rank p
  snt : ∀ p q, p < s.n → q < s.n → s.snt p q = true → s'.snt p q = true
  hd : ∀ p q, s.hd p q = true → s'.hd p q = true

theorem Mono.refl (s : Wv) : Mono s s := ⟨rfl, rfl, fun _ h => ⟨h, rfl, rfl⟩, fun _ _ _ _ h => h, fun _ _ h => h⟩
theorem Mono.trans {a b c : Wv} (h : Mono a b) (k : Mono b c) : Mono a c where
  n := k.n.trans h.n
  near := k.near.trans h.near
  rd := fun p hp => by
    obtain ⟨h1, h2, h3⟩ := h.rd p hp
    obtain ⟨k1, k2, k3⟩ := k.rd p h1
    exact ⟨k1, k2.trans h2, k3.trans h3⟩
  snt := fun p q hp hq hs => k.snt p q (by rw [h.n]; exact hp) (by rw [h.n]; exact hq) (h.snt p q hp hq hs)
  hd := fun p q hh => k.hd p q (h.hd p q hh)

theorem step_mono {s : Wv} (h : EInv s) (p q : Int) : Mono s (s.step p q) := by
  unfold Wv.step
  split
  · rename_i e
    obtain ⟨a, b, rfl, rfl, ha, hb, hw⟩ := Wv.stepErr0 e
    rw [Int.toNat_natCast, Int.toNat_natCast]
    have t := step0_to s a b h.net.n5
    refine ⟨t.n, t.near, fun p hp => ⟨t.rd_mono hp, (t.par_keep hp).1, (t.par_keep hp).2⟩, fun p q hp hq hs => ?_, fun p q hh => by rw [t.hd, hh]; rfl⟩
    have h1 := t.snt h ha hb hw hp hq
    rw [hs] at h1
    have h2 := (b2i_le (s.fwd a b q)).1
    have h3 := (b2i_le (s.bck a b q)).1
    cases e : (s.step0 a b).snt p q with
    | true => rfl
    | false => rw [e] at h1; simp [b2i] at h1 h2 h3; split at h1 <;> omega
  · exact Mono.refl s

theorem step_got {s : Wv} (h : EInv s) {a b : Nat} (ha : a < s.n) (hb : b < s.n) (hs : s.snt a b = true) : (s.step a b).hd b a = true := by
  cases e : s.hd b a with
  | true => exact (step_mono h a b).hd b a e
  | false =>
    have h1 := h.acc a b ha hb
    rw [hs, e] at h1
    have hw : s.ways a b ≠ 0 := by simp [b2i] at h1; omega
    unfold Wv.step
    rw [if_pos (by
      unfold Wv.stepErr
      rw [if_neg (by rw [(s.is_iff a b).2 ⟨a, b, rfl, rfl, ha, hb⟩]; simp), Int.toNat_natCast, Int.toNat_natCast, if_neg hw])]
    rw [Int.toNat_natCast, Int.toNat_natCast, (step0_to s a b h.net.n5).hd]
    simp

/-- In a round that began with s0: all ahead of a, b was tried. -/
def InRnd (s0 : Wv) (a b : Nat) (s : Wv) : Prop := EInv s ∧ Mono s0 s ∧ ∀ p q, p < s0.n → q < s0.n → (p < a ∨ p = a ∧ q < b) → s0.snt p q = true → s.hd q p = true

theorem inrnd_start {s : Wv} (h : EInv s) : InRnd s 0 0 s := ⟨h, Mono.refl s, fun p q _ _ hh => by omega⟩
theorem inrnd_row {s0 s : Wv} {a b : Nat} (h : InRnd s0 a b s) (hb : s0.n ≤ b) : InRnd s0 (a + 1) 0 s := ⟨h.1, h.2.1, fun p q hp hq hh => h.2.2 p q hp hq (by omega)⟩
theorem inrnd_next {s0 s : Wv} {a b : Nat} (h : InRnd s0 a b s) (ha : a < s0.n) (hb : b < s0.n) : InRnd s0 a (b + 1) (s.step a b) := by
  refine ⟨h.1.step a b, h.2.1.trans (step_mono h.1 a b), fun p q hp hq hh hs => ?_⟩
  by_cases e : p < a ∨ p = a ∧ q < b
  · exact (step_mono h.1 a b).hd q p (h.2.2 p q hp hq e hs)
  · have e1 : p = a := by omega
    have e2 : q = b := by omega
    subst e1 e2
    have hn := h.2.1.n
    exact step_got h.1 (by rw [hn]; exact hp) (by rw [hn]; exact hq) (h.2.1.snt p q hp hq hs)

theorem round_cnt {s0 s : Wv} (h0 : EInv s0) (h : InRnd s0 s0.n 0 s) : s0.cnt + 1 ≤ s.cnt ∨ ∀ p, p < s0.n → s0.rd p = true := by
  by_cases hc : s0.cnt + 1 ≤ s.cnt
  · exact .inl hc
  right
  refine h0.net.conn (fun p => s0.rd p = true) (by unfold Wv.rd; rw [h0.par0]; rfl) fun p q hp hq hA hn => ?_
  cases e : s0.rd q with
  | true => rfl
  | false =>
    exfalso
    apply hc
    have hpq : s0.parent p ≠ q := by
      intro e1
      by_cases e0 : p = 0
      · subst e0
        rw [h0.par0] at e1
        have : q = 0 := by omega
        subst this
        rw [hA] at e; cases e
      · obtain ⟨a, e2, _, _, e3, _⟩ := h0.par p hp e0 (by unfold Wv.rd at hA; simpa using hA)
        have : a = q := by omega
        subst this
        rw [e] at e3; cases e3
    have hs : s0.snt p q = true := by
      unfold Wv.snt
      rw [show s0.nr p q = true from hn, show s0.rd p = true from hA]
      simp [hpq]
    have hh := h.2.2 p q hp hq (.inl hp) hs
    have hr : s.rd q = true := h.1.hdR q p (by rw [h.2.1.n]; exact hq) hh
    unfold Wv.cnt
    rw [h.2.1.n]
    refine sum_one (p := q) (fun j _ => ?_) hq (by rw [e, hr]; simp [b2i])
    cases e5 : s0.rd j with
    | false => simp [b2i]; split <;> omega
    | true => rw [(h.2.1.rd j e5).1]; exact Int.le_refl _

def Goes (r : Nat) (s : Wv) : Prop :=
  ((r : Int) + 1 ≤ s.cnt ∨ ∀ p, p < s.n → s.rd p = true) ∧ (s.n ≤ r → ∀ p, p < s.n → s.rd p = true) ∧
  (s.n + 1 ≤ r → (∀ p q, p < s.n → q < s.n → s.nr p q = true → s.parent p ≠ q → s.hd q p = true) ∧ ∀ p, p < s.n → s.n + s.n + 1 ≤ s.rank p + r → s.heard p = s.near p)

theorem goes_start {s : Wv} (h : EInv s) : Goes 0 s := by
  have hn := h.net.n1
  refine ⟨.inl ?_, fun hh => by omega, fun hh => by omega⟩
  have := sum_ge (n := s.n) (f := fun p => b2i (s.rd p)) (p := 0) (fun j _ => (b2i_le _).1) (by omega)
  have h0 : s.rd 0 = true := by unfold Wv.rd; rw [h.par0]; rfl
  rw [h0] at this
  unfold Wv.cnt
  simp [b2i] at this ⊢; omega

theorem goes_round {r : Nat} {s0 s : Wv} (h0 : EInv s0) (hg : Goes r s0) (h : InRnd s0 s0.n 0 s) : Goes (r + 1) s := by
  have hn := h.2.1.n
  have hmono : (∀ p, p < s0.n → s0.rd p = true) → ∀ p, p < s.n → s.rd p = true := fun ha p hp => (h.2.1.rd p (ha p (by rw [← hn]; exact hp))).1
  have g1 : ((r + 1 : Nat) : Int) + 1 ≤ s.cnt ∨ ∀ p, p < s.n → s.rd p = true := by
    rcases round_cnt h0 h with h1 | h1
    · rcases hg.1 with h2 | h2
      · left; push_cast; omega
      · exact .inr (hmono h2)
    · exact .inr (hmono h1)
  have g2 : s.n ≤ r + 1 → ∀ p, p < s.n → s.rd p = true := by
    intro hr
    rcases g1 with h1 | h1
    · exact sum_all (f := s.rd) (n := s.n) (by show _ ≤ s.cnt; push_cast at h1; omega)
    · exact h1
  refine ⟨g1, g2, fun hr => ?_⟩
  have hall := hg.2.1 (by omega)
  have hnear := h.2.1.near
  have g3 : ∀ p q, p < s.n → q < s.n → s.nr p q = true → s.parent p ≠ q → s.hd q p = true := fun p q hp hq hnr hpq => by
    rw [hn] at hp hq
    have hnr0 : s0.nr p q = true := by unfold Wv.nr at *; rw [← hnear]; exact hnr
    obtain ⟨_, k2, _⟩ := h.2.1.rd p (hall p hp)
    refine h.2.2 p q hp hq (.inl hp) ?_
    unfold Wv.snt
    rw [hnr0, hall p hp, ← k2]
    simp [hpq]
  refine ⟨g3, fun p hp hrk => ?_⟩
  have hp0 : p < s0.n := by rw [← hn]; exact hp
  obtain ⟨k1, _, k3⟩ := h.2.1.rd p (hall p hp0)
  refine bits_eq (h.1.hdL p hp) (h.1.net.lt p hp) fun q hq => ?_
  show s.hd p q = s.nr p q
  cases e : s.nr p q with
  | false =>
    cases e2 : s.hd p q with
    | false => rfl
    | true => rw [h.1.hdN hp hq e2] at e; cases e
  | true =>
    have hq0 : q < s0.n := by rw [← hn]; exact hq
    have hnr : s.nr q p = true := by unfold Wv.nr at *; rw [h.1.net.sym q p hq hp]; exact e
    by_cases hpq : s.parent q = p
    · have hr1 : s0.n + 1 ≤ r := by
        have hc : s.cnt ≤ s.n := by
          have := sum_le (n := s.n) (f := fun j => b2i (s.rd j)) (g := fun _ => 1) (fun j _ => (b2i_le _).2)
          rw [sum_const] at this; unfold Wv.cnt; omega
        have := h.1.rnk p hp k1
        omega
      have hq1 : q ≠ 0 := fun e0 => by
        subst e0
        rw [h.1.par0] at hpq
        have : p = 0 := by omega
        subst this
        unfold Wv.nr at hnr
        rw [h.1.net.irr 0 hp] at hnr; cases hnr
      obtain ⟨j1, j2, j3⟩ := h.2.1.rd q (hall q hq0)
      obtain ⟨a, e1, _, _, _, e5⟩ := h.1.par q hq hq1 (by rw [hpq]; omega)
      have : a = p := by omega
      subst this
      have hc := (hg.2.2 hr1).2 q hq0 (by rw [← j3]; omega)
      refine h.2.2 q a hq0 hp0 (.inl hq0) ?_
      unfold Wv.snt
      have hnr0 : s0.nr q a = true := by unfold Wv.nr at *; rw [← hnear]; exact hnr
      rw [hnr0, hall q hq0]
      simp [hc]
    · exact g3 q p hq hp hnr hpq

theorem goes_done {r : Nat} {s : Wv} (h : EInv s) (hg : Goes r s) (hr : s.n + s.n + 1 ≤ r) : s.done = true := by
  rw [h.doneI, decide_eq_true_eq]
  have := h.net.n1
  exact (hg.2.2 (by omega)).2 0 (by omega) (by omega)

/-! ### When it is back -/
theorem EInv.whole {s : Wv} (h : EInv s) (hd : s.done = true) : ∀ p, p < s.n → s.rd p = true ∧ s.heard p = s.near p := by
  rw [h.doneI, decide_eq_true_eq] at hd
  have key : ∀ k p, p < s.n → s.rd p = true → s.rank p = k → s.heard p = s.near p := by
    intro k
    induction k using Nat.strongRecOn with
    | _ k ih =>
      intro p hp hr hk
      by_cases h0 : p = 0
      · subst h0; exact hd
      obtain ⟨a, e1, e2, e3, e4, e5⟩ := h.par p hp h0 (by unfold Wv.rd at hr; simpa using hr)
      have ha := ih (s.rank a) (by omega) a e2 e4 rfl
      have hh : s.hd a p = true := by
        unfold Wv.hd; rw [ha]; exact e3
      have hs := h.hdS e2 hp hh
      unfold Wv.snt at hs
      simp [e1] at hs
      exact hs.2
  have hall := h.net.conn (fun p => s.rd p = true) (by unfold Wv.rd; rw [h.par0]; rfl) fun p q hp hq hA hn => by
    have hh : s.hd p q = true := by
      unfold Wv.hd; rw [key _ p hp hA rfl]; exact hn
    exact (snt_nr (h.hdS hp hq hh)).2
  exact fun p hp => ⟨hall p hp, key _ p hp (hall p hp) rfl⟩

theorem EInv.still {s : Wv} (h : EInv s) (hd : s.done = true) {p q : Nat} (hp : p < s.n) (hq : q < s.n) : s.ways p q = 0 ∧ s.snt p q = s.nr p q := by
  have hs : s.snt p q = s.nr p q := by
    unfold Wv.snt
    rw [(h.whole hd p hp).1, (h.whole hd p hp).2]
    simp
  refine ⟨?_, hs⟩
  have h1 := h.acc p q hp hq
  have h2 : s.hd q p = s.nr p q := by
    unfold Wv.hd
    rw [(h.whole hd q hq).2]
    exact (h.net.sym p q hp hq).symm
  rw [hs, h2] at h1
  omega

/-- How many ways there are, and how much is on them. -/
def Wv.many (s : Wv) : Int := sum2 s.n fun p q => b2i (s.nr p q)
def Wv.left (s : Wv) : Int := sum2 s.n fun p q => s.ways p q

theorem EInv.sentLe {s : Wv} (h : EInv s) : s.sent ≤ s.many := by
  rw [h.sentI]
  refine sum_le fun p hp => sum_le fun q hq => ?_
  show b2i (s.snt p q) ≤ b2i (s.nr p q)
  cases e : s.snt p q with
  | false => exact (b2i_le _).1
  | true => rw [(snt_nr e).1]; exact Int.le_refl _

theorem EInv.sentEq {s : Wv} (h : EInv s) (hd : s.done = true) : s.sent = s.many ∧ s.left = 0 := by
  refine ⟨?_, sum2_zero fun p q hp hq => (h.still hd hp hq).1⟩
  rw [h.sentI]
  exact sum2_congr fun p q hp hq => by rw [(h.still hd hp hq).2]

theorem EInv.way01 {s : Wv} (h : EInv s) {p q : Nat} (hp : p < s.n) (hq : q < s.n) : 0 ≤ s.ways p q ∧ s.ways p q ≤ 1 := by
  have h1 := h.acc p q hp hq
  have h2 := b2i_le (s.snt p q)
  have h3 := b2i_le (s.hd q p)
  exact ⟨h.way0 p q hp hq, by omega⟩

theorem EInv.parR {s : Wv} (h : EInv s) {p : Nat} (hp : p < s.n) : -1 ≤ s.parent p ∧ s.parent p < s.n := by
  by_cases e : s.parent p < 0
  · rw [h.parN p hp e]; omega
  · by_cases h0 : p = 0
    · subst h0; rw [h.par0]; omega
    · obtain ⟨a, e1, e2, _⟩ := h.par p hp h0 (by omega)
      omega

/-- Up along the parents, k times. -/
def Wv.up (s : Wv) (p : Nat) : Nat → Int
  | 0 => p
  | k + 1 => if 0 < s.up p k then s.parent (s.up p k).toNat else s.up p k

theorem EInv.upR {s : Wv} (h : EInv s) {p : Nat} (hp : p < s.n) : ∀ k, -1 ≤ s.up p k ∧ s.up p k < s.n
  | 0 => by unfold Wv.up; omega
  | k + 1 => by
    have ih := h.upR hp k
    unfold Wv.up
    split
    · exact h.parR (by omega)
    · exact ih

theorem EInv.upRd {s : Wv} (h : EInv s) {p : Nat} (hp : p < s.n) (hr : s.rd p = true) : ∀ k, ∃ a : Nat, s.up p k = a ∧ a < s.n ∧ s.rd a = true ∧ (a = 0 ∨ s.rank a + k ≤ s.rank p)
  | 0 => ⟨p, rfl, hp, hr, .inr (by omega)⟩
  | k + 1 => by
    obtain ⟨a, e1, e2, e3, e4⟩ := h.upRd hp hr k
    unfold Wv.up
    rw [e1]
    by_cases h0 : a = 0
    · subst h0
      rw [if_neg (by omega)]
      exact ⟨0, rfl, e2, e3, .inl rfl⟩
    · rw [if_pos (by omega), Int.toNat_natCast]
      obtain ⟨b, k1, k2, _, k4, k5⟩ := h.par a e2 h0 (by unfold Wv.rd at e3; simpa using e3)
      exact ⟨b, k1, k2, k4, .inr (by omega)⟩

theorem EInv.upEnd {s : Wv} (h : EInv s) {p : Nat} (hp : p < s.n) (hr : s.rd p = true) : s.up p s.n = 0 := by
  obtain ⟨a, e1, e2, e3, e4⟩ := h.upRd hp hr s.n
  rcases e4 with e4 | e4
  · rw [e1, e4]; rfl
  · have hc : s.cnt ≤ s.n := by
      have := sum_le (n := s.n) (f := fun j => b2i (s.rd j)) (g := fun _ => 1) (fun j _ => (b2i_le _).2)
      rw [sum_const] at this; unfold Wv.cnt; omega
    have := h.rnk p hp hr
    omega

theorem up_stop {s : Wv} {p k : Nat} (h : ¬ 0 < s.up p k) : ∀ j, s.up p (k + j) = s.up p k
  | 0 => rfl
  | j + 1 => by
    have ih := up_stop h j
    show (if 0 < s.up p (k + j) then _ else s.up p (k + j)) = _
    rw [ih, if_neg h]

end Go.Proofs.YtckgkgaoioigdaaDoor
