/-
  The lock for which one asks all others, plain: how much is still to come, and that who asks comes in.
  Conditions: none beyond those of each lemma.
-/
import Derived.Test.YtmkjfiopkmcjcaaDoorGrMath2
namespace Go.Proofs.YtmkjfiopkmcjcaaDoor

theorem sum2_row {n : Nat} {f g : Nat → Nat → Int} {p : Nat} (hp : p < n) (h : ∀ a b, a < n → b < n → a ≠ p → g a b = f a b) : sum2 n g = sum2 n f + (sumN n (g p) - sumN n (f p)) :=
  sum_upd (f := fun p => sumN n (f p)) (g := fun p => sumN n (g p)) hp (fun j hj hne => sum_congr fun b hb => h j b hj hb hne)

theorem sum2_le {n : Nat} {f g : Nat → Nat → Int} (h : ∀ p q, p < n → q < n → f p q ≤ g p q) : sum2 n f ≤ sum2 n g := sum_le fun p hp => sum_le fun q hq => h p q hp hq

theorem sum2_add {n : Nat} {f g : Nat → Nat → Int} : sum2 n (fun a b => f a b + g a b) = sum2 n f + sum2 n g := by
  unfold sum2
  rw [← sum_add]
  exact sum_congr fun a _ => sum_add

theorem sum_swap (n m : Nat) (f : Nat → Nat → Int) : sumN n (fun p => sumN m (f p)) = sumN m (fun q => sumN n (fun p => f p q)) := by
  induction n with
  | zero => simp only [sumN]; rw [sum_zero (fun _ _ => rfl)]
  | succ n ih =>
    simp only [sumN]
    rw [ih, ← sum_add]

theorem sum2_swap (n : Nat) (f : Nat → Nat → Int) : sum2 n f = sum2 n (fun a b => f b a) := sum_swap n n f

theorem sum2_const (n : Nat) (c : Int) : sum2 n (fun _ _ => c) = n * (n * c) := by
  unfold sum2; rw [sum_congr (g := fun _ => (n : Int) * c) (fun _ _ => sum_const n c), sum_const]

theorem sum_but {n p : Nat} (hp : p < n) (c : Int) : sumN n (fun b => if b ≠ p then c else 0) = n * c - c := by
  have := sum_upd (n := n) (f := fun _ => c) (g := fun b => if b ≠ p then c else 0) hp (fun j _ hj => if_pos hj)
  rw [sum_const] at this
  simp only [ne_eq, not_true_eq_false, if_false] at this
  simp only [ne_eq]
  omega

def gF (s : GNet) (a b : Nat) : Int := 2 * req (s.ways a b) + zer (s.ways a b) + bI (s.wt a) b
def gG (s : GNet) (a b : Nat) : Int := req (s.ways a b) + bI (s.wt a) b
def gH (s : GNet) (a : Nat) : Int := if s.st a = 0 then 0 else 1
/-- How many messages are still to come, if nobody asks. -/
def psi (s : GNet) : Int := sum2 s.n (gF s)
/-- How many deeds there are still. -/
def phi (s : GNet) : Int := psi s + sum2 s.n (gG s) + sumN s.n (gH s)

theorem gF_nonneg (s : GNet) (a b : Nat) : 0 ≤ gF s a b := by
  unfold gF
  have := req_nonneg (s.ways a b)
  have := zer_nonneg (s.ways a b)
  have := bI_nonneg (s.wt a) b
  omega
theorem gG_nonneg (s : GNet) (a b : Nat) : 0 ≤ gG s a b := by
  unfold gG
  have := req_nonneg (s.ways a b)
  have := bI_nonneg (s.wt a) b
  omega
theorem gH_nonneg (s : GNet) (a : Nat) : 0 ≤ gH s a := by unfold gH; split <;> omega
theorem psi_nonneg (s : GNet) : 0 ≤ psi s := sum2_nonneg fun _ _ _ _ => gF_nonneg _ _ _
theorem phi_nonneg (s : GNet) : 0 ≤ phi s := by
  unfold phi
  have h1 := psi_nonneg s
  have h2 : 0 ≤ sum2 s.n (gG s) := sum2_nonneg fun _ _ _ _ => gG_nonneg _ _ _
  have h3 : 0 ≤ sumN s.n (gH s) := sum_nonneg fun _ _ => gH_nonneg _ _
  omega

theorem tot_le {s : GNet} (h : GInv s) {p q : Nat} (hp : p < s.n) (hq : q < s.n) : tot s p q ≤ 1 := by
  by_cases e : p = q
  · subst e
    unfold tot; rw [h.selfW p hp, h.selfT p hp]; show (0 : Int) + 0 + 0 ≤ 1; omega
  · by_cases h0 : s.st p = 0
    · rw [h.out p q hp hq e h0]; omega
    · have := h.one p q hp hq e h0
      have := bI_nonneg (s.gr p) q
      omega

theorem phi_le {s : GNet} (h : GInv s) : phi s ≤ 52 := by
  have h1 : psi s + sum2 s.n (gG s) = sum2 s.n (fun a b => 3 * req (s.ways a b) + zer (s.ways a b) + 2 * bI (s.wt a) b) := by
    unfold psi; rw [← sum2_add]
    exact sum2_congr fun a b _ _ => by unfold gF gG; omega
  have h2 : sum2 s.n (fun a b => 3 * req (s.ways a b) + zer (s.ways a b) + 2 * bI (s.wt a) b) = sum2 s.n (fun a b => 3 * req (s.ways a b)) + sum2 s.n (fun a b => zer (s.ways b a) + 2 * bI (s.wt b) a) := by
    rw [sum2_swap s.n (fun a b => zer (s.ways b a) + 2 * bI (s.wt b) a), ← sum2_add]
    exact sum2_congr fun a b _ _ => by omega
  have h3 : sum2 s.n (fun a b => 3 * req (s.ways a b)) + sum2 s.n (fun a b => zer (s.ways b a) + 2 * bI (s.wt b) a) ≤ sum2 s.n (fun _ _ => 3) := by
    rw [← sum2_add]
    refine sum2_le fun a b ha hb => ?_
    have := tot_le h ha hb
    unfold tot at this
    have := req_nonneg (s.ways a b)
    have := zer_nonneg (s.ways b a)
    have := bI_nonneg (s.wt b) a
    omega
  have h4 : sumN s.n (gH s) ≤ sumN s.n (fun _ => 1) := sum_le fun a _ => by unfold gH; split <;> omega
  rw [sum_const] at h4
  rw [sum2_const] at h3
  have h5 : (s.n : Int) * ((s.n : Int) * 3) ≤ 4 * (4 * 3) := by
    have hn := h.n4
    have h6 : (s.n : Int) * 3 ≤ 4 * 3 := by omega
    exact Int.le_trans (Int.mul_le_mul_of_nonneg_left h6 (by omega)) (Int.mul_le_mul_of_nonneg_right (by omega) (by omega))
  have := h.n4
  unfold phi
  omega

theorem pots_enter (s : GNet) (p : Nat) : psi (s.enter p) = psi s ∧ phi (s.enter p) = phi s ∧ (s.enter p).n = s.n := by
  unfold GNet.enter
  split
  · rename_i h
    refine ⟨rfl, ?_, rfl⟩
    have : sumN s.n (gH { s with st := put1 s.st p 2 }) = sumN s.n (gH s) := sum_congr fun a _ => by
      show (if put1 s.st p 2 a = 0 then (0 : Int) else 1) = if s.st a = 0 then 0 else 1
      by_cases e : a = p
      · subst e; rw [put1_self, h.1]; rfl
      · rw [put1_ne _ _ e]
    show psi s + sum2 s.n (gG s) + sumN s.n (gH { s with st := put1 s.st p 2 }) = phi s
    rw [this]; rfl
  · exact ⟨rfl, rfl, rfl⟩

theorem psi_ask {s : GNet} (h : GInv s) {p : Nat} (hp : p < s.n) (_h0 : s.st p = 0) : psi (s.ask0 p) = psi s + 2 * ((s.n : Int) - 1) ∧ (s.ask0 p).n = s.n := by
  obtain ⟨h1, _, h3⟩ := pots_enter ((s.ask1 p).bcast p (s.ck p + 1) (fun b => decide (b ≠ p)) s.n) p
  refine ⟨?_, h3⟩
  have hpos := h.pos p hp
  unfold GNet.ask0
  rw [h1]
  have e1 : ∀ a b, a < s.n → b < s.n → gF ((s.ask1 p).bcast p (s.ck p + 1) (fun b => decide (b ≠ p)) s.n) a b = gF s a b + (if a = p ∧ b ≠ p then 2 else 0) := fun a b ha hb => by
    unfold gF
    rw [bcast_way]
    show _ + _ + bI (s.wt a) b = _
    by_cases e : a = p ∧ b ≠ p
    · rw [if_pos e, if_pos ⟨e.1, hb, decide_eq_true e.2⟩, req_app, zer_app, if_neg (by omega), if_neg (by omega)]
      show 2 * (req (s.ways a b) + 1) + (zer (s.ways a b) + 0) + _ = _
      omega
    · rw [if_neg e, if_neg (fun hh => e ⟨hh.1, of_decide_eq_true hh.2.2⟩)]
      show 2 * req (s.ways a b) + zer (s.ways a b) + _ = _
      omega
  have e2 : psi ((s.ask1 p).bcast p (s.ck p + 1) (fun b => decide (b ≠ p)) s.n) = psi s + sum2 s.n (fun a b => if a = p ∧ b ≠ p then 2 else 0) := by
    unfold psi; rw [← sum2_add]
    exact sum2_congr fun a b ha hb => e1 a b ha hb
  rw [e2, sum2_row (f := fun _ _ => 0) hp (fun a b _ _ hne => if_neg (fun hh => hne hh.1)), sum2_zero (fun _ _ _ _ => rfl), sum_zero (f := fun _ => 0) (fun _ _ => rfl)]
  have e3 : sumN s.n (fun b => if p = p ∧ b ≠ p then (2 : Int) else 0) = sumN s.n (fun b => if b ≠ p then 2 else 0) := sum_congr fun b _ => by
    by_cases e : b ≠ p
    · rw [if_pos ⟨rfl, e⟩, if_pos e]
    · rw [if_neg (fun hh => e hh.2), if_neg e]
  have e4 := sum_but hp 2
  rw [← e3] at e4
  omega

theorem pots_leave {s : GNet} {p : Nat} (hp : p < s.n) (h2 : s.st p = 2) : psi (s.leave0 p) = psi s ∧ phi (s.leave0 p) ≤ phi s - 1 ∧ (s.leave0 p).n = s.n := by
  have hw : ∀ a b, b < s.n → (s.leave0 p).ways a b = if a = p ∧ bitB (s.wt p) b = true then s.ways a b ++ [0] else s.ways a b := fun a b hb => by
    show (if a = p ∧ b < s.n ∧ bitB (s.wt p) b = true then s.ways a b ++ [0] else s.ways a b) = _
    by_cases e : a = p ∧ bitB (s.wt p) b = true
    · rw [if_pos e, if_pos ⟨e.1, hb, e.2⟩]
    · rw [if_neg e, if_neg (fun hh => e ⟨hh.1, hh.2.2⟩)]
  have hF : ∀ a b, b < s.n → gF (s.leave0 p) a b = gF s a b ∧ gG (s.leave0 p) a b ≤ gG s a b := fun a b hb => by
    unfold gF gG
    rw [hw a b hb]
    have ew : bI ((s.leave0 p).wt a) b = bI (put1 s.wt p 0 a) b := rfl
    rw [ew]
    by_cases e : a = p
    · subst e
      rw [put1_self, bI_zero]
      by_cases eb : bitB (s.wt a) b = true
      · rw [if_pos ⟨rfl, eb⟩, req_app, zer_app, if_pos rfl, if_pos rfl]
        unfold bI; rw [if_pos eb]; omega
      · rw [if_neg (fun hh => eb hh.2)]
        unfold bI; rw [if_neg eb]; omega
    · rw [put1_ne _ _ e, if_neg (fun hh => e hh.1)]; omega
  have e1 : psi (s.leave0 p) = psi s := sum2_congr fun a b _ hb => (hF a b hb).1
  have e2 : sum2 s.n (gG (s.leave0 p)) ≤ sum2 s.n (gG s) := sum2_le fun a b _ hb => (hF a b hb).2
  have e3 := sum_upd (n := s.n) (f := gH s) (g := gH (s.leave0 p)) hp (fun a _ hne => by
    show (if put1 s.st p 0 a = 0 then (0 : Int) else 1) = _
    rw [put1_ne _ _ hne]; rfl)
  have e4 : gH (s.leave0 p) p = 0 := by
    show (if put1 s.st p 0 p = 0 then (0 : Int) else 1) = 0
    rw [put1_self]; rfl
  have e5 : gH s p = 1 := by unfold gH; rw [if_neg (by omega)]
  refine ⟨e1, ?_, rfl⟩
  show psi (s.leave0 p) + sum2 s.n (gG (s.leave0 p)) + sumN s.n (gH (s.leave0 p)) ≤ psi s + sum2 s.n (gG s) + sumN s.n (gH s) - 1
  omega

theorem pots_hear {s : GNet} (h : GInv s) {p q : Nat} {m : Int} {l : List Int} (hp : p < s.n) (hq : q < s.n) (hl : s.ways p q = m :: l) :
    psi ((s.pop p q).hear p q m) = psi s - 1 ∧ phi ((s.pop p q).hear p q m) ≤ phi s - 1 ∧ ((s.pop p q).hear p q m).n = s.n := by
  have h16 := h.sub
  have h4 := h.n4
  have hne : p ≠ q := fun e => by subst e; rw [h.selfW p hp] at hl; cases hl
  have hway : ∀ a b, (s.pop p q).ways a b = if a = p ∧ b = q then l else s.ways a b := fun a b => by
    show put2 s.ways p q (s.ways p q).tail a b = _
    unfold put2; rw [hl, List.tail_cons]
  have hww : ∀ a b, (a ≠ p ∨ b ≠ q) → (s.pop p q).ways a b = s.ways a b := fun a b hh => by rw [hway, if_neg (by omega)]
  have pF := sum2_upd (n := s.n) (f := gF s) (g := gF (s.pop p q)) hp hq (fun a b _ _ hh => by
    show 2 * req ((s.pop p q).ways a b) + zer ((s.pop p q).ways a b) + bI (s.wt a) b = _
    rw [hww a b hh]; rfl)
  have pG := sum2_upd (n := s.n) (f := gG s) (g := gG (s.pop p q)) hp hq (fun a b _ _ hh => by
    show req ((s.pop p q).ways a b) + bI (s.wt a) b = _
    rw [hww a b hh]; rfl)
  have f1 : gF (s.pop p q) p q - gF s p q = if m = 0 then -1 else -2 := by
    show 2 * req ((s.pop p q).ways p q) + zer ((s.pop p q).ways p q) + bI (s.wt p) q - (2 * req (s.ways p q) + zer (s.ways p q) + bI (s.wt p) q) = _
    rw [hway, if_pos ⟨rfl, rfl⟩, hl, req_cons, zer_cons]
    by_cases hm : m = 0
    · rw [if_pos hm, if_pos hm, if_pos hm]; omega
    · rw [if_neg hm, if_neg hm, if_neg hm]; omega
  have f2 : gG (s.pop p q) p q - gG s p q = if m = 0 then 0 else -1 := by
    show req ((s.pop p q).ways p q) + bI (s.wt p) q - (req (s.ways p q) + bI (s.wt p) q) = _
    rw [hway, if_pos ⟨rfl, rfl⟩, hl, req_cons]
    by_cases hm : m = 0
    · rw [if_pos hm, if_pos hm]; omega
    · rw [if_neg hm, if_neg hm]; omega
  have hpsi : psi (s.pop p q) = psi s + (if m = 0 then -1 else -2) := by rw [← f1]; exact pF
  have hG : sum2 s.n (gG (s.pop p q)) = sum2 s.n (gG s) + (if m = 0 then 0 else -1) := by rw [← f2]; exact pG
  by_cases hm : m = 0
  · rw [if_pos hm] at hpsi hG
    unfold GNet.hear
    rw [if_pos hm]
    obtain ⟨h1, h2, h3⟩ := pots_enter { s.pop p q with gr := put1 (s.pop p q).gr q ((s.pop p q).gr q ||| 2 ^ p) } q
    rw [h1, h2]
    refine ⟨?_, ?_, h3⟩
    · show psi (s.pop p q) = _
      omega
    · show psi (s.pop p q) + sum2 s.n (gG (s.pop p q)) + sumN s.n (gH s) ≤ psi s + sum2 s.n (gG s) + sumN s.n (gH s) - 1
      omega
  · rw [if_neg hm] at hpsi hG
    have hst : s.st p = 1 := by
      rcases h.msg p q hp hq m (by rw [hl]; simp) with h' | h'
      · exact absurd h' hm
      · exact h'.2
    have hone := h.one p q hp hq hne (by omega)
    have hw0 : bI (s.wt q) p = 0 := by
      have hrq : 1 ≤ req (s.ways p q) := by rw [hl, req_cons, if_neg hm]; have := req_nonneg l; omega
      unfold tot at hone
      have := zer_nonneg (s.ways q p)
      have := bI_nonneg (s.wt q) p
      have := bI_nonneg (s.gr p) q
      omega
    unfold GNet.hear
    rw [if_neg hm]
    split
    · have hwb : ∀ b, b < s.n → bI (s.wt q ||| 2 ^ p) b = if b = p then 1 else bI (s.wt q) b := fun b hb => bI_or (by have := h.wtB q hq; omega) (by omega) (by omega)
      have hwt : ∀ a b, a < s.n → b < s.n → (a ≠ q ∨ b ≠ p) → bI (put1 s.wt q (s.wt q ||| 2 ^ p) a) b = bI (s.wt a) b := fun a b ha hb hh => by
        by_cases e : a = q
        · subst e; rw [put1_self, hwb b hb, if_neg (by omega)]
        · rw [put1_ne _ _ e]
      have pF2 := sum2_upd (n := s.n) (f := gF (s.pop p q)) (g := gF { s.pop p q with ck := put1 (s.pop p q).ck q (max ((s.pop p q).ck q) m), wt := put1 (s.pop p q).wt q ((s.pop p q).wt q ||| 2 ^ p) }) hq hp (fun a b ha hb hh => by
        show _ + _ + bI (put1 s.wt q (s.wt q ||| 2 ^ p) a) b = _ + _ + bI (s.wt a) b
        rw [hwt a b ha hb hh])
      have pG2 := sum2_upd (n := s.n) (f := gG (s.pop p q)) (g := gG { s.pop p q with ck := put1 (s.pop p q).ck q (max ((s.pop p q).ck q) m), wt := put1 (s.pop p q).wt q ((s.pop p q).wt q ||| 2 ^ p) }) hq hp (fun a b ha hb hh => by
        show _ + bI (put1 s.wt q (s.wt q ||| 2 ^ p) a) b = _ + bI (s.wt a) b
        rw [hwt a b ha hb hh])
      have e1 : bI (put1 s.wt q (s.wt q ||| 2 ^ p) q) p = 1 := by rw [put1_self, hwb p hp, if_pos rfl]
      have f3 : gF { s.pop p q with ck := put1 (s.pop p q).ck q (max ((s.pop p q).ck q) m), wt := put1 (s.pop p q).wt q ((s.pop p q).wt q ||| 2 ^ p) } q p - gF (s.pop p q) q p = 1 := by
        show 2 * req ((s.pop p q).ways q p) + zer ((s.pop p q).ways q p) + bI (put1 s.wt q (s.wt q ||| 2 ^ p) q) p - (2 * req ((s.pop p q).ways q p) + zer ((s.pop p q).ways q p) + bI (s.wt q) p) = 1
        rw [e1, hw0]; omega
      have f4 : gG { s.pop p q with ck := put1 (s.pop p q).ck q (max ((s.pop p q).ck q) m), wt := put1 (s.pop p q).wt q ((s.pop p q).wt q ||| 2 ^ p) } q p - gG (s.pop p q) q p = 1 := by
        show req ((s.pop p q).ways q p) + bI (put1 s.wt q (s.wt q ||| 2 ^ p) q) p - (req ((s.pop p q).ways q p) + bI (s.wt q) p) = 1
        rw [e1, hw0]; omega
      rw [f3] at pF2
      rw [f4] at pG2
      have pF3 : psi { s.pop p q with ck := put1 (s.pop p q).ck q (max ((s.pop p q).ck q) m), wt := put1 (s.pop p q).wt q ((s.pop p q).wt q ||| 2 ^ p) } = psi (s.pop p q) + 1 := pF2
      refine ⟨pF3.trans (by omega), ?_, rfl⟩
      show psi { s.pop p q with ck := put1 (s.pop p q).ck q (max ((s.pop p q).ck q) m), wt := put1 (s.pop p q).wt q ((s.pop p q).wt q ||| 2 ^ p) } + sum2 s.n (gG { s.pop p q with ck := put1 (s.pop p q).ck q (max ((s.pop p q).ck q) m), wt := put1 (s.pop p q).wt q ((s.pop p q).wt q ||| 2 ^ p) }) + sumN s.n (gH s) ≤ psi s + sum2 s.n (gG s) + sumN s.n (gH s) - 1
      omega
    · have hw2 : ∀ a b, (a ≠ q ∨ b ≠ p) → (({ s.pop p q with ck := put1 (s.pop p q).ck q (max ((s.pop p q).ck q) m) } : GNet).push q p 0).ways a b = (s.pop p q).ways a b := fun a b hh => put2_ne _ _ hh
      have hw3 : (({ s.pop p q with ck := put1 (s.pop p q).ck q (max ((s.pop p q).ck q) m) } : GNet).push q p 0).ways q p = (s.pop p q).ways q p ++ [0] := put2_self _ _ _ _
      have pF2 := sum2_upd (n := s.n) (f := gF (s.pop p q)) (g := gF (({ s.pop p q with ck := put1 (s.pop p q).ck q (max ((s.pop p q).ck q) m) } : GNet).push q p 0)) hq hp (fun a b ha hb hh => by
        unfold gF; rw [hw2 a b hh]; rfl)
      have pG2 := sum2_upd (n := s.n) (f := gG (s.pop p q)) (g := gG (({ s.pop p q with ck := put1 (s.pop p q).ck q (max ((s.pop p q).ck q) m) } : GNet).push q p 0)) hq hp (fun a b ha hb hh => by
        unfold gG; rw [hw2 a b hh]; rfl)
      have f3 : gF (({ s.pop p q with ck := put1 (s.pop p q).ck q (max ((s.pop p q).ck q) m) } : GNet).push q p 0) q p - gF (s.pop p q) q p = 1 := by
        unfold gF; rw [hw3, req_app, zer_app, if_pos rfl, if_pos rfl]
        show _ + _ + bI (s.wt q) p - (_ + _ + bI (s.wt q) p) = 1
        omega
      have f4 : gG (({ s.pop p q with ck := put1 (s.pop p q).ck q (max ((s.pop p q).ck q) m) } : GNet).push q p 0) q p - gG (s.pop p q) q p = 0 := by
        unfold gG; rw [hw3, req_app, if_pos rfl]
        show _ + bI (s.wt q) p - (_ + bI (s.wt q) p) = 0
        omega
      rw [f3] at pF2
      rw [f4] at pG2
      have pF3 : psi (({ s.pop p q with ck := put1 (s.pop p q).ck q (max ((s.pop p q).ck q) m) } : GNet).push q p 0) = psi (s.pop p q) + 1 := pF2
      refine ⟨pF3.trans (by omega), ?_, rfl⟩
      show psi (({ s.pop p q with ck := put1 (s.pop p q).ck q (max ((s.pop p q).ck q) m) } : GNet).push q p 0) + sum2 s.n (gG (({ s.pop p q with ck := put1 (s.pop p q).ck q (max ((s.pop p q).ck q) m) } : GNet).push q p 0)) + sumN s.n (gH s) ≤ psi s + sum2 s.n (gG s) + sumN s.n (gH s) - 1
      omega

/-! ### The deeds -/
theorem GInv.askD {s : GNet} (h : GInv s) (p : Int) : GInv (s.ask p) ∧ (s.ask p).n = s.n ∧ (s.askErr p = 0 → psi (s.ask p) = psi s + 2 * ((s.n : Int) - 1)) ∧ (s.askErr p ≠ 0 → s.ask p = s) := by
  unfold GNet.ask
  by_cases he : s.askErr p = 0
  · rw [if_pos he]
    obtain ⟨a, rfl, ha, h0, _⟩ := GNet.ask_ok he
    rw [Int.toNat_natCast]
    have hp := psi_ask h ha h0
    exact ⟨h.ask0 ha h0, hp.2, fun _ => hp.1, fun hne => absurd he hne⟩
  · rw [if_neg he]; exact ⟨h, rfl, fun h' => absurd h' he, fun _ => rfl⟩

theorem GInv.leaveD {s : GNet} (h : GInv s) (p : Int) : GInv (s.leave p) ∧ (s.leave p).n = s.n ∧ psi (s.leave p) = psi s ∧ (s.leaveErr p = 0 → phi (s.leave p) ≤ phi s - 1) ∧ (s.leaveErr p ≠ 0 → s.leave p = s) := by
  unfold GNet.leave
  by_cases he : s.leaveErr p = 0
  · rw [if_pos he]
    obtain ⟨a, rfl, ha, h2⟩ := GNet.leave_ok he
    rw [Int.toNat_natCast]
    obtain ⟨h3, h4, h5⟩ := pots_leave ha h2
    exact ⟨h.leave0 ha h2, h5, h3, fun _ => h4, fun hne => absurd he hne⟩
  · rw [if_neg he]; exact ⟨h, rfl, rfl, fun h' => absurd h' he, fun _ => rfl⟩

theorem GInv.stepD {s : GNet} (h : GInv s) (p q : Int) : GInv (s.step p q) ∧ (s.step p q).n = s.n ∧ (s.stepErr p q = 0 → psi (s.step p q) = psi s - 1 ∧ phi (s.step p q) ≤ phi s - 1) ∧ (s.stepErr p q ≠ 0 → s.step p q = s) := by
  unfold GNet.step
  by_cases he : s.stepErr p q = 0
  · rw [if_pos he]
    obtain ⟨a, b, rfl, rfl, ha, hb, m, l, hl⟩ := GNet.step_ok he
    rw [Int.toNat_natCast, Int.toNat_natCast, hl, List.headD_cons]
    obtain ⟨h3, h4, h5⟩ := pots_hear h ha hb hl
    exact ⟨h.hear ha hb hl, h5, fun _ => ⟨h3, h4⟩, fun hne => absurd he hne⟩
  · rw [if_neg he]; exact ⟨h, rfl, fun h' => absurd h' he, fun _ => rfl⟩

/-- Nothing can be done any more. -/
def Still (s : GNet) : Prop := (∀ p, p < s.n → s.st p ≠ 2) ∧ ∀ p q, p < s.n → q < s.n → s.ways p q = []

/-- Then all are out. -/
theorem GInv.still {s : GNet} (h : GInv s) (hs : Still s) : (∀ p, p < s.n → s.st p = 0) ∧ psi s = 0 ∧ phi s = 0 := by
  have key : ∀ (N : Nat) (p : Nat), p < s.n → s.st p = 1 → s.tm p * 5 + p ≤ N → False := by
    intro N
    induction N using Nat.strongRecOn with
    | _ N ih =>
      intro p hp h1 hN
      obtain ⟨q, hq, hne, hg⟩ := h.ask p hp h1
      have ho := h.one p q hp hq (Ne.symm hne) (by omega)
      unfold tot at ho
      rw [hs.2 p q hp hq, hs.2 q p hq hp, hg] at ho
      have hw : bI (s.wt q) p = 1 := by
        have e1 : req [] = 0 := rfl
        have e2 : zer [] = 0 := rfl
        omega
      obtain ⟨_, h2⟩ := h.wait p q hp hq hw
      rcases h2 with h2 | ⟨h2, h3⟩
      · exact hs.1 q hq h2
      · have hpn := h.n4
        have hp0 := h.pos p hp
        have hq0 := h.pos q hq
        unfold tlt at h3
        have : s.tm q * 5 + q < s.tm p * 5 + p := by omega
        exact ih (s.tm q * 5 + q).toNat (by omega) q hq h2 (by omega)
  have hz : ∀ p, p < s.n → s.st p = 0 := fun p hp => by
    rcases h.st3 p hp with h1 | h1 | h1
    · exact h1
    · exact (key (s.tm p * 5 + p).toNat p hp h1 (by have := h.pos p hp; omega)).elim
    · exact absurd h1 (hs.1 p hp)
  have hb : ∀ a b, a < s.n → b < s.n → bI (s.wt a) b = 0 := fun a b ha hb' => by
    by_cases e : a = b
    · subst e; exact h.selfT a ha
    · have h1 := h.out b a hb' ha (Ne.symm e) (hz b hb')
      unfold tot at h1
      have := req_nonneg (s.ways b a)
      have := zer_nonneg (s.ways a b)
      have := bI_nonneg (s.wt a) b
      omega
  have h1 : psi s = 0 := sum2_zero fun a b ha hb' => by
    unfold gF; rw [hs.2 a b ha hb', hb a b ha hb']; rfl
  refine ⟨hz, h1, ?_⟩
  have h2 : sum2 s.n (gG s) = 0 := sum2_zero fun a b ha hb' => by
    unfold gG; rw [hs.2 a b ha hb', hb a b ha hb']; rfl
  have h3 : sumN s.n (gH s) = 0 := sum_zero fun a ha => by unfold gH; rw [if_pos (hz a ha)]
  unfold phi; omega

/-- Where nothing is to come, nothing can be done. -/
theorem phi_still {s : GNet} (h : phi s ≤ 0) : Still s := by
  have h1 := psi_nonneg s
  have h2 : 0 ≤ sum2 s.n (gG s) := sum2_nonneg fun _ _ _ _ => gG_nonneg _ _ _
  have h3 : 0 ≤ sumN s.n (gH s) := sum_nonneg fun _ _ => gH_nonneg _ _
  unfold phi at h
  refine ⟨fun p hp h0 => ?_, fun p q hp hq => ?_⟩
  · have := sum_ge (n := s.n) (f := gH s) (p := p) (fun _ _ => gH_nonneg _ _) hp
    have e : gH s p = 1 := by unfold gH; rw [if_neg (by omega)]
    omega
  · have h4 : gF s p q ≤ psi s := sum2_ge (f := gF s) (fun a b _ _ => gF_nonneg s a b) hp hq
    have h5 := req_zer (s.ways p q)
    have h6 := req_nonneg (s.ways p q)
    have h7 := zer_nonneg (s.ways p q)
    have h8 := bI_nonneg (s.wt p) q
    unfold gF at h4
    exact List.eq_nil_of_length_eq_zero (by omega)

end Go.Proofs.YtmkjfiopkmcjcaaDoor
