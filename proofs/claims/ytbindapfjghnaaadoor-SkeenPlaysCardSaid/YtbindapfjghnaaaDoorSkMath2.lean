/-
  The net that tells all the same in the same order, plain: one order, all comes in the end, and the times agree.
  Conditions: a net as New made it, behind any deeds.
-/
import Derived.Test.YtbindapfjghnaaaDoorSkMath
namespace Go.Proofs.YtbindapfjghnaaaDoor

/-- What is done to a net of notes. -/
def SNet.act (s : SNet) (l : List Int) : SNet :=
  if l.length = 1 then s.send else if l.length = 2 then s.hear (l.getD 0 0) (l.getD 1 0) else if l.length = 3 then s.fixIt (l.getD 0 0) (l.getD 1 0) else s

theorem SInv.act {s : SNet} (h : SInv s) (l : List Int) : SInv (s.act l) := by
  unfold SNet.act
  by_cases h1 : l.length = 1
  · rw [if_pos h1]; exact h.send
  by_cases h2 : l.length = 2
  · rw [if_neg h1, if_pos h2]; exact h.hear _ _
  by_cases h3 : l.length = 3
  · rw [if_neg h1, if_neg h2, if_pos h3]; exact h.fixIt _ _
  · rw [if_neg h1, if_neg h2, if_neg h3]; exact h

/-! ### Sizes -/
theorem SNet.send_n (s : SNet) : s.send.n = s.n := by unfold SNet.send; split <;> rfl
theorem SNet.hear_n (s : SNet) (p k : Int) : (s.hear p k).n = s.n := by unfold SNet.hear; split <;> rfl
theorem SNet.hear_m (s : SNet) (p k : Int) : (s.hear p k).m = s.m := by unfold SNet.hear; split <;> rfl
theorem takeN_keep (p : Nat) : ∀ (f : Nat) (s : SNet), (takeN p f s).n = s.n ∧ (takeN p f s).m = s.m ∧ (takeN p f s).here = s.here ∧ (takeN p f s).fix = s.fix ∧ (takeN p f s).tm = s.tm ∧ (takeN p f s).clk = s.clk
  | 0, s => ⟨rfl, rfl, rfl, rfl, rfl, rfl⟩
  | f + 1, s => by
    unfold takeN
    split
    · exact ⟨rfl, rfl, rfl, rfl, rfl, rfl⟩
    · exact takeN_keep p f (s.take1 p)
theorem SNet.fixIt_n (s : SNet) (p k : Int) : (s.fixIt p k).n = s.n := by
  unfold SNet.fixIt; split
  · exact (takeN_keep _ _ _).1
  · rfl
theorem SNet.fixIt_m (s : SNet) (p k : Int) : (s.fixIt p k).m = s.m := by
  unfold SNet.fixIt; split
  · exact (takeN_keep _ _ _).2.1
  · rfl
theorem SNet.fixIt_here (s : SNet) (p k : Int) : (s.fixIt p k).here = s.here := by
  unfold SNet.fixIt; split
  · exact (takeN_keep _ _ _).2.2.1
  · rfl
theorem SNet.act_n (s : SNet) (l : List Int) : (s.act l).n = s.n := by
  unfold SNet.act
  by_cases h1 : l.length = 1
  · rw [if_pos h1]; exact s.send_n
  by_cases h2 : l.length = 2
  · rw [if_neg h1, if_pos h2]; exact s.hear_n _ _
  by_cases h3 : l.length = 3
  · rw [if_neg h1, if_neg h2, if_pos h3]; exact s.fixIt_n _ _
  · rw [if_neg h1, if_neg h2, if_neg h3]

/-! ### One order -/
theorem SPre.got_nodup {s : SNet} (h : SPre s) {p : Nat} (hp : p < s.n) : (s.got p).Nodup := by
  rw [List.nodup_iff_pairwise_ne]
  refine List.Pairwise.imp ?_ (h.gotS p hp)
  intro x y hl e
  subst e; exact s.lt_irrefl p _ hl

theorem nodup_at {l : List Int} (h : l.Nodup) {i j : Nat} (hi : i < l.length) (hj : j < l.length) (e : l[i] = l[j]) : i = j := by
  rw [List.nodup_iff_pairwise_ne, List.pairwise_iff_getElem] at h
  rcases Nat.lt_trichotomy i j with h1 | h1 | h1
  · exact absurd e (h i j hi hj h1)
  · exact h1
  · exact absurd e.symm (h j i hj hi h1)

/-- x stands where y does not yet: it is ahead. -/
theorem SPre.ahead {s : SNet} (h : SPre s) {p q : Nat} (hp : p < s.n) (hq : q < s.n) {k : Nat} (hkp : k < (s.got p).length) (hkq : k < (s.got q).length)
    (hb : ∀ j (h1 : j < (s.got p).length) (h2 : j < (s.got q).length), j < k → (s.got p)[j] = (s.got q)[j]) (hne : (s.got p)[k] ≠ (s.got q)[k]) : s.lt p (s.got p)[k] (s.got q)[k] := by
  obtain ⟨y, ey, hym, hyf⟩ := h.gotF q hq _ (List.getElem_mem hkq)
  by_cases hm : (s.got q)[k] ∈ s.got p
  · obtain ⟨i, hi, e⟩ := List.mem_iff_getElem.1 hm
    rw [← e]
    rcases Nat.lt_trichotomy i k with h1 | h1 | h1
    · rw [hb i hi (by omega) h1] at e
      have := nodup_at (h.got_nodup hq) (by omega) hkq e
      omega
    · subst h1; exact absurd e hne
    · exact (List.pairwise_iff_getElem.1 (h.gotS p hp)) k i hkp hi h1
  · rw [ey] at hm ⊢
    exact h.low p y hp hym (h.fixM q p y hq hp hym hyf).1 hm _ (List.getElem_mem hkp)

theorem SPre.same {s : SNet} (h : SPre s) {p q : Nat} (hp : p < s.n) (hq : q < s.n) : ∀ k (h1 : k < (s.got p).length) (h2 : k < (s.got q).length), (s.got p)[k] = (s.got q)[k] := by
  intro k
  induction k using Nat.strongRecOn with
  | _ k ih =>
    intro h1 h2
    by_cases e : (s.got p)[k] = (s.got q)[k]
    · exact e
    exfalso
    have a1 := h.ahead hp hq h1 h2 (fun j hj1 hj2 hj => ih j hj hj1 hj2) e
    have a2 := h.ahead hq hp h2 h1 (fun j hj1 hj2 hj => (ih j hj hj2 hj1).symm) (fun e' => e e'.symm)
    obtain ⟨x, ex, hxm, hxf⟩ := h.gotF p hp _ (List.getElem_mem h1)
    obtain ⟨y, ey, hym, hyf⟩ := h.gotF q hq _ (List.getElem_mem h2)
    rw [ex, ey] at a1 a2
    unfold SNet.lt at a1 a2
    rw [Int.toNat_natCast, Int.toNat_natCast] at a1 a2
    have b1 := (h.fixM p q x hp hq hxm hxf).2
    have b2 := (h.fixM q p y hq hp hym hyf).2
    omega

/-- What stands in what a node had: fixed, by rising times. -/
theorem SPre.rises {s : SNet} (h : SPre s) {p k : Nat} (hp : p < s.n) (hk0 : 0 < k) (hk : k < (s.got p).length) : s.fixedAt p ((s.got p)[k - 1]) = true ∧ s.fixedAt p ((s.got p)[k]) = true ∧
    ¬ s.timeOf p ((s.got p)[k]) < s.timeOf p ((s.got p)[k - 1]) ∧ ¬ (s.timeOf p ((s.got p)[k - 1]) = s.timeOf p ((s.got p)[k]) ∧ (s.got p)[k] ≤ (s.got p)[k - 1]) := by
  obtain ⟨x, ex, hxm, hxf⟩ := h.gotF p hp _ (List.getElem_mem (show k - 1 < (s.got p).length by omega))
  obtain ⟨y, ey, hym, hyf⟩ := h.gotF p hp _ (List.getElem_mem hk)
  have a1 := (List.pairwise_iff_getElem.1 (h.gotS p hp)) (k - 1) k (by omega) hk (by omega)
  rw [ex, ey] at a1 ⊢
  have i1 : s.is p x = true := (s.is_iff p x).2 ⟨p, x, rfl, rfl, hp, hxm⟩
  have i2 : s.is p y = true := (s.is_iff p y).2 ⟨p, y, rfl, rfl, hp, hym⟩
  unfold SNet.fixedAt SNet.timeOf
  rw [if_pos i1, if_pos i2, if_pos i1, if_pos i2]
  unfold SNet.lt at a1
  rw [Int.toNat_natCast, Int.toNat_natCast] at a1
  rw [Int.toNat_natCast, Int.toNat_natCast, Int.toNat_natCast]
  refine ⟨hxf, hyf, ?_, ?_⟩ <;> omega

/-! ### All comes -/
/-- p, k in the order of the rounds, note by note. -/
def HeardTo (a b : Nat) (s : SNet) : Prop := ∀ k p, k < s.m → p < s.n → (k < a ∨ k = a ∧ p < b) → s.here k p = true
def AllHeard (s : SNet) : Prop := ∀ k p, k < s.m → p < s.n → s.here k p = true
def FixedTo (a b : Nat) (s : SNet) : Prop := AllHeard s ∧ ∀ k p, k < s.m → p < s.n → (k < a ∨ k = a ∧ p < b) → s.fix k p = true

theorem heard_start (s : SNet) : HeardTo 0 0 s := fun k p _ _ h => by omega
theorem heard_row {s : SNet} {a b : Nat} (h : HeardTo a b s) (hb : s.n ≤ b) : HeardTo (a + 1) 0 s := fun k p hk hp hh => h k p hk hp (by omega)
theorem heard_all {s : SNet} {a : Nat} (h : HeardTo a 0 s) (hm : s.m ≤ a) : AllHeard s := fun k p hk hp => h k p hk hp (by omega)

theorem hear_here (s : SNet) (p k : Int) (c q : Nat) (h : s.here c q = true) : (s.hear p k).here c q = true := by
  unfold SNet.hear
  split
  · show put2 s.here k.toNat p.toNat true c q = true
    unfold put2; split
    · rfl
    · exact h
  · exact h

theorem heard_next {s : SNet} {a b : Nat} (h : HeardTo a b s) : HeardTo a (b + 1) (s.hear b a) := by
  intro k p hk hp hh
  rw [SNet.hear_m] at hk
  rw [SNet.hear_n] at hp
  by_cases e : k < a ∨ k = a ∧ p < b
  · exact hear_here s _ _ _ _ (h k p hk hp e)
  · have ek : k = a := by omega
    have ep : p = b := by omega
    subst ek ep
    cases e2 : s.here k p with
    | true => exact hear_here s _ _ _ _ e2
    | false =>
      have hi : s.is p k = true := (s.is_iff p k).2 ⟨p, k, rfl, rfl, hp, hk⟩
      unfold SNet.hear
      rw [if_pos (by unfold SNet.hearErr; rw [if_neg (by rw [hi]; simp), Int.toNat_natCast, Int.toNat_natCast, if_neg (by rw [e2]; simp)])]
      show put2 s.here (k : Int).toNat (p : Int).toNat true k p = true
      rw [Int.toNat_natCast, Int.toNat_natCast, put2_self]

theorem fixed_start {s : SNet} (h : AllHeard s) : FixedTo 0 0 s := ⟨h, fun k p _ _ h => by omega⟩
theorem fixed_row {s : SNet} {a b : Nat} (h : FixedTo a b s) (hb : s.n ≤ b) : FixedTo (a + 1) 0 s := ⟨h.1, fun k p hk hp hh => h.2 k p hk hp (by omega)⟩

theorem fixIt_fix (s : SNet) (p k : Int) (c q : Nat) (h : s.fix c q = true) : (s.fixIt p k).fix c q = true := by
  unfold SNet.fixIt
  split
  · show (takeN _ _ _).fix c q = true
    rw [(takeN_keep _ _ _).2.2.2.1]
    show put2 s.fix k.toNat p.toNat true c q = true
    unfold put2; split
    · rfl
    · exact h
  · exact h

theorem fixed_next {s : SNet} {a b : Nat} (h : FixedTo a b s) : FixedTo a (b + 1) (s.fixIt b a) := by
  refine ⟨fun k p hk hp => ?_, fun k p hk hp hh => ?_⟩
  · rw [SNet.fixIt_m] at hk
    rw [SNet.fixIt_n] at hp
    rw [SNet.fixIt_here]; exact h.1 k p hk hp
  rw [SNet.fixIt_m] at hk
  rw [SNet.fixIt_n] at hp
  by_cases e : k < a ∨ k = a ∧ p < b
  · exact fixIt_fix s _ _ _ _ (h.2 k p hk hp e)
  · have ek : k = a := by omega
    have ep : p = b := by omega
    subst ek ep
    cases e2 : s.fix k p with
    | true => exact fixIt_fix s _ _ _ _ e2
    | false =>
      have hi : s.is p k = true := (s.is_iff p k).2 ⟨p, k, rfl, rfl, hp, hk⟩
      have ha : allHere s k s.n = true := (allHere_iff s k s.n).2 fun q hq => h.1 k q hk hq
      unfold SNet.fixIt
      rw [if_pos (by unfold SNet.fixErr; rw [if_neg (by rw [hi]; simp), Int.toNat_natCast, Int.toNat_natCast, if_neg (by rw [ha]; simp), if_neg (by rw [e2]; simp)])]
      show (takeN _ _ _).fix k p = true
      rw [(takeN_keep _ _ _).2.2.2.1]
      show put2 s.fix (k : Int).toNat (p : Int).toNat true k p = true
      rw [Int.toNat_natCast, Int.toNat_natCast, put2_self]

theorem all_le : ∀ (m : Nat) (l : List Int), (∀ k : Nat, k < m → (k : Int) ∈ l) → m ≤ l.length
  | 0, _, _ => Nat.zero_le _
  | m + 1, l, h => by
    have hm := h m (by omega)
    have h1 := all_le m (l.erase (m : Int)) fun k hk => (List.mem_erase_of_ne (by omega)).2 (h k (by omega))
    rw [List.length_erase_of_mem hm] at h1
    have : 0 < l.length := List.length_pos_of_mem hm
    omega

theorem SInv.gotAll {s : SNet} (h : SInv s) {a : Nat} (hf : FixedTo a 0 s) (ha : s.m ≤ a) {p : Nat} (hp : p < s.n) : (s.got p).length = s.m := by
  have h1 := h.toSPre.got_le hp
  have h2 := all_le s.m (s.got p) fun k hk => by
    by_cases e : (k : Int) ∈ s.got p
    · exact e
    · obtain ⟨k', h1, _, h3⟩ := h.pend p hp k hk (hf.2 k p hk hp (by omega)) e
      rw [hf.2 k' p h1 hp (by omega)] at h3; cases h3
  omega

theorem SInv.gotEq {s : SNet} (h : SInv s) {a : Nat} (hf : FixedTo a 0 s) (ha : s.m ≤ a) {p : Nat} (hp : p < s.n) : s.got p = s.got 0 := by
  have h0 : 0 < s.n := by omega
  refine List.ext_getElem (by rw [h.gotAll hf ha hp, h.gotAll hf ha h0]) fun k h1 h2 => h.toSPre.same hp h0 k h1 h2

theorem SNet.none_at (s : SNet) {m : Nat} (hm : s.m = m) (p : Int) : s.fixedAt p m = false := by
  unfold SNet.fixedAt
  rw [if_neg (fun h => by obtain ⟨a, b, _, h1, _, h2⟩ := (s.is_iff p m).1 h; omega)]

/-! ### The times -/
theorem SPre.times {s : SNet} (h : SPre s) {p q : Nat} (k : Nat) (hp : p < s.n) (hq : q < s.n) (h1 : s.fixedAt p k = true) : ¬ s.timeOf q k < 1 ∧ (s.fixedAt q k = true → s.timeOf p k = s.timeOf q k) ∧ ¬ s.timeOf p k < s.timeOf q k := by
  have hi : s.is p k = true := by
    unfold SNet.fixedAt at h1
    by_cases e : s.is p k = true
    · exact e
    · rw [if_neg e] at h1; cases h1
  obtain ⟨_, k', _, e, _, hk⟩ := (s.is_iff p k).1 hi
  have e : k = k' := by omega
  subst e
  have iq : s.is q k = true := (s.is_iff q k).2 ⟨q, k, rfl, rfl, hq, hk⟩
  unfold SNet.fixedAt at h1 ⊢
  unfold SNet.timeOf
  rw [if_pos hi, Int.toNat_natCast, Int.toNat_natCast] at h1
  rw [if_pos hi, if_pos iq, if_pos iq, Int.toNat_natCast, Int.toNat_natCast, Int.toNat_natCast]
  obtain ⟨a1, a2⟩ := h.fixM p q k hp hq hk h1
  have a3 := (h.tmH q k hq hk a1).1
  refine ⟨by omega, fun h2 => ?_, by omega⟩
  have := (h.fixM q p k hq hp hk h2).2
  omega

end Go.Proofs.YtbindapfjghnaaaDoor
