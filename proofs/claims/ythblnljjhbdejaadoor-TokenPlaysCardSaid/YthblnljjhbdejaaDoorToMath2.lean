/-
  The lock whose token goes from one to the next, plain: how much is still to come, and that who asks comes in.
  Conditions: none beyond those of each lemma.
-/
import Derived.Test.YthblnljjhbdejaaDoorToMath
namespace Go.Proofs.YthblnljjhbdejaaDoor

theorem sum2_row {n : Nat} {f g : Nat → Nat → Int} {p : Nat} (hp : p < n) (h : ∀ a b, a < n → b < n → a ≠ p → g a b = f a b) : sum2 n g = sum2 n f + (sumN n (g p) - sumN n (f p)) :=
  sum_upd (f := fun p => sumN n (f p)) (g := fun p => sumN n (g p)) hp (fun j hj hne => sum_congr fun b hb => h j b hj hb hne)

theorem sum_but {n p : Nat} (hp : p < n) (c : Int) : sumN n (fun b => if b ≠ p then c else 0) = n * c - c := by
  have := sum_upd (n := n) (f := fun _ => c) (g := fun b => if b ≠ p then c else 0) hp (fun j _ hj => if_pos hj)
  rw [sum_const] at this
  simp only [ne_eq, not_true_eq_false, if_false] at this
  simp only [ne_eq]
  omega

def len (l : List Int) : Int := l.length
def msgs (s : TNet) : Int := sum2 s.n fun a b => len (s.ways a b)
def kap (s : TNet) (p : Nat) : Int := if s.inn p = true then 1 else if s.asks p = true then 0 else 2
def fee (s : TNet) (p : Nat) : Int := if s.inn p = true then 1 else if s.asks p = true then 2 else 0
/-- What each deed makes greater by one at most. -/
def kst (s : TNet) : Int := msgs s + sumN s.n (kap s)
/-- How many deeds there are still, if nobody asks. -/
def phi (s : TNet) : Int := msgs s + sumN s.n (fee s)

theorem msgs_nonneg (s : TNet) : 0 ≤ msgs s := sum2_nonneg fun _ _ _ _ => by unfold len; omega
theorem phi_nonneg (s : TNet) : 0 ≤ phi s := by
  unfold phi
  have h1 := msgs_nonneg s
  have h2 : 0 ≤ sumN s.n (fee s) := sum_nonneg fun _ _ => by unfold fee; split; omega; split <;> omega
  omega
theorem msgs_le_kst (s : TNet) : msgs s ≤ kst s := by
  unfold kst
  have h2 : 0 ≤ sumN s.n (kap s) := sum_nonneg fun _ _ => by unfold kap; split; omega; split <;> omega
  omega
theorem phi_le_kst (s : TNet) (h4 : s.n ≤ 4) : phi s ≤ kst s + 8 := by
  have h1 : sumN s.n (fee s) ≤ sumN s.n (fun p => kap s p + 2) := sum_le fun p _ => by unfold fee kap; split; omega; split <;> omega
  have h2 : sumN s.n (fun p => kap s p + 2) = sumN s.n (kap s) + sumN s.n (fun _ => 2) := sum_add
  rw [sum_const] at h2
  unfold phi kst
  omega
theorem way_le {s : TNet} {p q : Nat} (hp : p < s.n) (hq : q < s.n) : ((s.ways p q).length : Int) ≤ msgs s :=
  sum2_ge (f := fun a b => len (s.ways a b)) (fun _ _ _ _ => by unfold len; omega) hp hq

theorem give_same (s : TNet) : s.give.n = s.n ∧ s.give.ways = s.ways ∧ s.give.asks = s.asks ∧ s.give.inn = s.inn := by
  unfold TNet.give; split <;> exact ⟨rfl, rfl, rfl, rfl⟩

theorem pots_same {s s' : TNet} (h1 : s'.n = s.n) (h2 : s'.ways = s.ways) (h3 : s'.asks = s.asks) (h4 : s'.inn = s.inn) : msgs s' = msgs s ∧ kst s' = kst s ∧ phi s' = phi s := by
  have e1 : msgs s' = msgs s := by unfold msgs; rw [h1, h2]
  have e2 : kap s' = kap s := by funext p; unfold kap; rw [h3, h4]
  have e3 : fee s' = fee s := by funext p; unfold fee; rw [h3, h4]
  refine ⟨e1, ?_, ?_⟩
  · unfold kst; rw [e1, e2, h1]
  · unfold phi; rw [e1, e3, h1]

theorem start_pots {n : Nat} (h4 : n ≤ 4) : msgs (TNet.init n) = 0 ∧ kst (TNet.init n) ≤ 8 := by
  have h1 : msgs (TNet.init n) = 0 := sum2_zero fun _ _ _ _ => rfl
  refine ⟨h1, ?_⟩
  have h2 : sumN n (kap (TNet.init n)) = sumN n (fun _ => 2) := sum_congr fun _ _ => rfl
  rw [sum_const] at h2
  show msgs (TNet.init n) + sumN n (kap (TNet.init n)) ≤ 8
  omega

theorem TInv.askD {s : TNet} (h : TInv s) (p : Int) : TInv (s.ask p) ∧ (s.ask p).n = s.n ∧ (s.askErr p = 0 → kst (s.ask p) ≤ kst s + 1 ∧ msgs (s.ask p) = msgs s + (if s.holder = p then 0 else (s.n : Int) - 1)) ∧ (s.askErr p ≠ 0 → s.ask p = s) := by
  unfold TNet.ask
  by_cases he : s.askErr p = 0
  · rw [if_pos he]
    obtain ⟨a, rfl, ha, h1, h2, h3⟩ := TNet.ask_ok he
    rw [Int.toNat_natCast]
    refine ⟨h.ask0 ha h1 h2 h3, ?_, fun _ => ?_, fun hne => absurd he hne⟩
    · unfold TNet.ask0; split <;> rfl
    have hk0 : kap s a = 2 := by unfold kap; rw [if_neg (by rw [h2]; simp), if_neg (by rw [h1]; simp)]
    unfold TNet.ask0
    by_cases hh : s.holder = (a : Int)
    · rw [if_pos hh, if_pos hh]
      have e1 : msgs { s.ask1 a with inn := put1 s.inn a true } = msgs s := rfl
      refine ⟨?_, by rw [e1]; omega⟩
      have e2 := sum_upd (n := s.n) (f := kap s) (g := kap { s.ask1 a with inn := put1 s.inn a true }) ha (fun b _ hb => by
        show (if put1 s.inn a true b = true then (1 : Int) else if s.asks b = true then 0 else 2) = _
        rw [put1_ne _ _ hb]; rfl)
      have e3 : kap { s.ask1 a with inn := put1 s.inn a true } a = 1 := if_pos (put1_self _ _ _)
      show msgs s + sumN s.n (kap { s.ask1 a with inn := put1 s.inn a true }) ≤ msgs s + sumN s.n (kap s) + 1
      omega
    · rw [if_neg hh, if_neg hh]
      have e1 : msgs (({ s.ask1 a with asks := put1 s.asks a true } : TNet).bcast a (s.had a a + 1) s.n) = msgs s + ((s.n : Int) - 1) := by
        have e2 := sum2_row (n := s.n) (f := fun x b => len (s.ways x b)) (g := fun x b => len ((({ s.ask1 a with asks := put1 s.asks a true } : TNet).bcast a (s.had a a + 1) s.n).ways x b)) ha (fun x b _ _ hx => by
          show len (if x = a ∧ b < s.n ∧ b ≠ a then _ else _) = _
          rw [if_neg (fun hh => hx hh.1)]; rfl)
        have e3 : sumN s.n (fun b => len ((({ s.ask1 a with asks := put1 s.asks a true } : TNet).bcast a (s.had a a + 1) s.n).ways a b)) = sumN s.n (fun b => len (s.ways a b) + (if b ≠ a then 1 else 0)) := sum_congr fun b hb => by
          show len (if a = a ∧ b < s.n ∧ b ≠ a then s.ways a b ++ [s.had a a + 1] else s.ways a b) = _
          by_cases e : b ≠ a
          · rw [if_pos ⟨rfl, hb, e⟩, if_pos e]; unfold len; rw [List.length_append]; push_cast; rfl
          · rw [if_neg (fun hh => e hh.2.2), if_neg e]; omega
        have e4 : sumN s.n (fun b => len (s.ways a b) + (if b ≠ a then 1 else 0)) = sumN s.n (fun b => len (s.ways a b)) + sumN s.n (fun b => if b ≠ a then 1 else 0) := sum_add
        have e5 := sum_but ha 1
        have e6 : msgs (({ s.ask1 a with asks := put1 s.asks a true } : TNet).bcast a (s.had a a + 1) s.n) = sum2 s.n (fun x b => len ((({ s.ask1 a with asks := put1 s.asks a true } : TNet).bcast a (s.had a a + 1) s.n).ways x b)) := rfl
        rw [e6, e2]
        show msgs s + (sumN s.n (fun b => len ((({ s.ask1 a with asks := put1 s.asks a true } : TNet).bcast a (s.had a a + 1) s.n).ways a b)) - sumN s.n (fun b => len (s.ways a b))) = _
        omega
      refine ⟨?_, e1⟩
      have e2 := sum_upd (n := s.n) (f := kap s) (g := kap (({ s.ask1 a with asks := put1 s.asks a true } : TNet).bcast a (s.had a a + 1) s.n)) ha (fun b _ hb => by
        show (if s.inn b = true then (1 : Int) else if put1 s.asks a true b = true then 0 else 2) = _
        rw [put1_ne _ _ hb]; rfl)
      have e3 : kap (({ s.ask1 a with asks := put1 s.asks a true } : TNet).bcast a (s.had a a + 1) s.n) a = 0 := by
        show (if s.inn a = true then (1 : Int) else if put1 s.asks a true a = true then 0 else 2) = 0
        rw [if_neg (by rw [h2]; simp), if_pos (put1_self _ _ _)]
      have := h.n4
      show msgs _ + sumN s.n (kap (({ s.ask1 a with asks := put1 s.asks a true } : TNet).bcast a (s.had a a + 1) s.n)) ≤ msgs s + sumN s.n (kap s) + 1
      omega
  · rw [if_neg he]; exact ⟨h, rfl, fun h' => absurd h' he, fun _ => rfl⟩

theorem TInv.leaveD {s : TNet} (h : TInv s) (p : Int) : TInv (s.leave p) ∧ (s.leave p).n = s.n ∧ msgs (s.leave p) = msgs s ∧ (s.leaveErr p = 0 → phi (s.leave p) = phi s - 1 ∧ kst (s.leave p) = kst s + 1) ∧ (s.leaveErr p ≠ 0 → s.leave p = s) := by
  unfold TNet.leave
  by_cases he : s.leaveErr p = 0
  · rw [if_pos he]
    obtain ⟨a, rfl, ha, hi⟩ := TNet.leave_ok he
    rw [Int.toNat_natCast]
    obtain ⟨g1, g2, g3, g4⟩ := give_same ({ s.leave1 a with queue := enqL (s.leave1 a) a s.n } : TNet)
    obtain ⟨p1, p2, p3⟩ := pots_same g1 g2 g3 g4
    have hasks := h.holdA a ha (h.inH a ha hi)
    have m1 : msgs ({ s.leave1 a with queue := enqL (s.leave1 a) a s.n } : TNet) = msgs s := rfl
    have f1 := sum_upd (n := s.n) (f := fee s) (g := fee ({ s.leave1 a with queue := enqL (s.leave1 a) a s.n } : TNet)) ha (fun b _ hb => by
      show (if put1 s.inn a false b = true then (1 : Int) else if s.asks b = true then 2 else 0) = _
      rw [put1_ne _ _ hb]; rfl)
    have f2 : fee ({ s.leave1 a with queue := enqL (s.leave1 a) a s.n } : TNet) a = 0 := by
      show (if put1 s.inn a false a = true then (1 : Int) else if s.asks a = true then 2 else 0) = 0
      rw [put1_self, hasks]; rfl
    have f3 : fee s a = 1 := if_pos hi
    have k1 := sum_upd (n := s.n) (f := kap s) (g := kap ({ s.leave1 a with queue := enqL (s.leave1 a) a s.n } : TNet)) ha (fun b _ hb => by
      show (if put1 s.inn a false b = true then (1 : Int) else if s.asks b = true then 0 else 2) = _
      rw [put1_ne _ _ hb]; rfl)
    have k2 : kap ({ s.leave1 a with queue := enqL (s.leave1 a) a s.n } : TNet) a = 2 := by
      show (if put1 s.inn a false a = true then (1 : Int) else if s.asks a = true then 0 else 2) = 2
      rw [put1_self, hasks]; rfl
    have k3 : kap s a = 1 := if_pos hi
    refine ⟨h.leave0 ha hi, g1, p1.trans m1, fun _ => ⟨?_, ?_⟩, fun hne => absurd he hne⟩
    · refine p3.trans ?_
      show msgs s + sumN s.n (fee ({ s.leave1 a with queue := enqL (s.leave1 a) a s.n } : TNet)) = msgs s + sumN s.n (fee s) - 1
      omega
    · refine p2.trans ?_
      show msgs s + sumN s.n (kap ({ s.leave1 a with queue := enqL (s.leave1 a) a s.n } : TNet)) = msgs s + sumN s.n (kap s) + 1
      omega
  · rw [if_neg he]; exact ⟨h, rfl, rfl, fun h' => absurd h' he, fun _ => rfl⟩

theorem TInv.stepD {s : TNet} (h : TInv s) (p q : Int) : TInv (s.step p q) ∧ (s.step p q).n = s.n ∧ (s.stepErr p q = 0 → msgs (s.step p q) = msgs s - 1 ∧ phi (s.step p q) = phi s - 1 ∧ kst (s.step p q) = kst s - 1) ∧ (s.stepErr p q ≠ 0 → s.step p q = s) := by
  unfold TNet.step
  by_cases he : s.stepErr p q = 0
  · rw [if_pos he]
    obtain ⟨a, b, rfl, rfl, ha, hb, m, l, hl⟩ := TNet.step_ok he
    rw [Int.toNat_natCast, Int.toNat_natCast, hl, List.headD_cons]
    have m1 : msgs (s.pop a b) = msgs s - 1 := by
      have := sum2_upd (n := s.n) (f := fun x y => len (s.ways x y)) (g := fun x y => len ((s.pop a b).ways x y)) ha hb (fun x y _ _ hh => by
        show len (put2 s.ways a b _ x y) = _
        rw [put2_ne _ _ hh])
      have e1 : len ((s.pop a b).ways a b) - len (s.ways a b) = -1 := by
        show len (put2 s.ways a b (s.ways a b).tail a b) - _ = -1
        rw [put2_self, hl, List.tail_cons]; unfold len; rw [List.length_cons]; push_cast; omega
      have e2 : msgs (s.pop a b) = sum2 s.n (fun x y => len ((s.pop a b).ways x y)) := rfl
      rw [e2, this, e1]; rfl
    have same : ((s.pop a b).hear a b m).n = s.n ∧ ((s.pop a b).hear a b m).ways = (s.pop a b).ways ∧ ((s.pop a b).hear a b m).asks = s.asks ∧ ((s.pop a b).hear a b m).inn = s.inn := by
      unfold TNet.hear
      split
      · obtain ⟨g1, g2, g3, g4⟩ := give_same ({ (s.pop a b).hear1 a b m with queue := (s.pop a b).queue ++ [(a : Int)] } : TNet)
        exact ⟨g1, g2, g3, g4⟩
      · exact ⟨rfl, rfl, rfl, rfl⟩
    obtain ⟨p1, p2, p3⟩ := pots_same (s := s.pop a b) same.1 same.2.1 same.2.2.1 same.2.2.2
    refine ⟨h.hear ha hb hl, same.1, fun _ => ⟨by rw [p1, m1], ?_, ?_⟩, fun hne => absurd he hne⟩
    · rw [p3]
      show msgs (s.pop a b) + sumN s.n (fee s) = msgs s + sumN s.n (fee s) - 1
      omega
    · rw [p2]
      show msgs (s.pop a b) + sumN s.n (kap s) = msgs s + sumN s.n (kap s) - 1
      omega
  · rw [if_neg he]; exact ⟨h, rfl, fun h' => absurd h' he, fun _ => rfl⟩

theorem TInv.bringD {s : TNet} (h : TInv s) : TInv s.bring ∧ s.bring.n = s.n ∧ msgs s.bring = msgs s ∧ (s.bringErr = 0 → phi s.bring = phi s - 1 ∧ kst s.bring = kst s + 1) ∧ (s.bringErr ≠ 0 → s.bring = s) := by
  unfold TNet.bring
  by_cases he : s.bringErr = 0
  · rw [if_pos he]
    have hh : s.holder < 0 := by unfold TNet.bringErr at he; split at he <;> omega
    obtain ⟨h1, k, h2, h3, h4⟩ : s.holder = -1 ∧ ∃ k : Nat, s.target = k ∧ k < s.n ∧ s.asks k = true := by
      rcases h.hold with h1 | ⟨k, h1, _⟩
      · exact h1
      · omega
    have hi : s.inn k = false := by
      cases hx : s.inn k with
      | false => rfl
      | true => have := h.inH k h3 hx; omega
    have e1 : s.bring0 = { s with holder := k, asks := put1 s.asks k false, inn := put1 s.inn k true } := by
      unfold TNet.bring0; rw [h2, Int.toNat_natCast]
    refine ⟨h.bring0 hh, rfl, rfl, fun _ => ?_, fun hne => absurd he hne⟩
    rw [e1]
    have f1 := sum_upd (n := s.n) (f := fee s) (g := fee { s with holder := k, asks := put1 s.asks k false, inn := put1 s.inn k true }) h3 (fun b _ hb => by
      show (if put1 s.inn k true b = true then (1 : Int) else if put1 s.asks k false b = true then 2 else 0) = _
      rw [put1_ne _ _ hb, put1_ne _ _ hb]; rfl)
    have f2 : fee { s with holder := k, asks := put1 s.asks k false, inn := put1 s.inn k true } k = 1 := if_pos (put1_self _ _ _)
    have f3 : fee s k = 2 := by unfold fee; rw [if_neg (by rw [hi]; simp), if_pos h4]
    have k1 := sum_upd (n := s.n) (f := kap s) (g := kap { s with holder := k, asks := put1 s.asks k false, inn := put1 s.inn k true }) h3 (fun b _ hb => by
      show (if put1 s.inn k true b = true then (1 : Int) else if put1 s.asks k false b = true then 0 else 2) = _
      rw [put1_ne _ _ hb, put1_ne _ _ hb]; rfl)
    have k2 : kap { s with holder := k, asks := put1 s.asks k false, inn := put1 s.inn k true } k = 1 := if_pos (put1_self _ _ _)
    have k3 : kap s k = 0 := by unfold kap; rw [if_neg (by rw [hi]; simp), if_pos h4]
    constructor
    · show msgs s + sumN s.n (fee { s with holder := k, asks := put1 s.asks k false, inn := put1 s.inn k true }) = msgs s + sumN s.n (fee s) - 1
      omega
    · show msgs s + sumN s.n (kap { s with holder := k, asks := put1 s.asks k false, inn := put1 s.inn k true }) = msgs s + sumN s.n (kap s) + 1
      omega
  · rw [if_neg he]; exact ⟨h, rfl, rfl, fun h' => absurd h' he, fun _ => rfl⟩

/-- Nothing can be done any more. -/
def Still (s : TNet) : Prop := 0 ≤ s.holder ∧ (∀ p, p < s.n → s.inn p = false) ∧ ∀ p q, p < s.n → q < s.n → s.ways p q = []

/-- Then nobody asks. -/
theorem TInv.still {s : TNet} (h : TInv s) (hs : Still s) : (∀ p, p < s.n → s.asks p = false) ∧ msgs s = 0 ∧ phi s = 0 := by
  obtain ⟨h0, hi, hw⟩ := hs
  obtain ⟨k, hk, hkn⟩ : ∃ k : Nat, s.holder = k ∧ k < s.n := by
    rcases h.hold with ⟨h1, _⟩ | h1
    · omega
    · exact h1
  have ha : ∀ p, p < s.n → s.asks p = false := fun p hp => by
    cases hx : s.asks p with
    | false => rfl
    | true =>
      have hne : p ≠ k := fun e => by subst e; rw [h.holdA p hp hk] at hx; cases hx
      have h1 := h.sent p k hp hkn hne hx
      rw [hw p k hp hkn] at h1
      rcases h1 with h1 | h1
      · have h2 := h.idleK k p hkn hp hne hk (hi k hkn)
        have h3 := h.act p hp (.inl hx)
        omega
      · cases h1
  have hm : msgs s = 0 := sum2_zero fun a b ha hb => by rw [hw a b ha hb]; rfl
  refine ⟨ha, hm, ?_⟩
  have : sumN s.n (fee s) = 0 := sum_zero fun p hp => by unfold fee; rw [hi p hp, ha p hp]; rfl
  unfold phi; omega

theorem phi_still {s : TNet} (h : TInv s) (h0 : phi s ≤ 0) : Still s := by
  have h1 := msgs_nonneg s
  have h2 : ∀ p, 0 ≤ fee s p := fun p => by unfold fee; split; omega; split <;> omega
  have h3 : 0 ≤ sumN s.n (fee s) := sum_nonneg fun p _ => h2 p
  unfold phi at h0
  have h4 : ∀ p, p < s.n → fee s p = 0 := fun p hp => by
    have := sum_ge (n := s.n) (f := fee s) (p := p) (fun a _ => h2 a) hp
    have := h2 p
    omega
  refine ⟨?_, fun p hp => ?_, fun p q hp hq => ?_⟩
  · rcases h.hold with ⟨_, k, _, hk, hka⟩ | ⟨k, hk, _⟩
    · have h5 := h4 k hk
      unfold fee at h5
      rw [hka] at h5
      split at h5 <;> simp at h5
    · omega
  · have h5 := h4 p hp
    unfold fee at h5
    cases hx : s.inn p with
    | false => rfl
    | true => rw [hx] at h5; simp at h5
  · have := way_le (s := s) hp hq
    exact List.eq_nil_of_length_eq_zero (by omega)

end Go.Proofs.YthblnljjhbdejaaDoor
