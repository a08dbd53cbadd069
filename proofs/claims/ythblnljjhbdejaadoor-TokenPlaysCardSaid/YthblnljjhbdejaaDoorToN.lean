/-
  The document's lock whose token goes from one to the next, field by field, and what each deed does to the fields.
  Conditions: none beyond those of each lemma.
-/
import Derived.Test.YthblnljjhbdejaaDoorToG
import Derived.Test.YthblnljjhbdejaaDoorBox
import Derived.Test.YthblnljjhbdejaaDoorFlat
namespace Go.Proofs.YthblnljjhbdejaaDoor
open Go Go.RowKit

def TNet.stOf (s : TNet) (p : Nat) : Int := if s.inn p = true then 2 else if s.asks p = true then 1 else 0
def TNet.hadL (s : TNet) : List (List Int) := line s.n fun p => line s.n (s.had p)
theorem TNet.hadL_len (s : TNet) : s.hadL.length = s.n := line_len _ _
theorem TNet.hadL_at (s : TNet) {p : Nat} (hp : p < s.n) : s.hadL.getD p [] = line s.n (s.had p) := line_at _ hp _
theorem TNet.had_put (s : TNet) {p q : Nat} (x : Int) : s.hadL.set p ((line s.n (s.had p)).set q x) = line s.n fun a => line s.n (put2 s.had p q x a) := by
  unfold TNet.hadL
  rw [line_set, line_set]
  refine line_congr fun a _ => ?_
  by_cases e : a = p
  · subst e
    rw [put1_self]
    exact line_congr fun b _ => by
      by_cases e2 : b = q
      · subst e2; rw [put1_self, put2_self]
      · rw [put1_ne _ _ e2, put2_ne _ _ (.inr e2)]
  · rw [put1_ne _ _ e]
    exact line_congr fun b _ => by rw [put2_ne _ _ (.inl e)]

/-- The document's net, field by field. -/
def tf (s : TNet) : List Fd := [.i s.n, .l (line s.n s.stOf), .r s.hadL, .i s.holder, .i s.targetOf, .l (line s.n s.served), .l s.queue, .r (flat s.n s.ways)]

theorem tf_push (s : TNet) {p q : Nat} (hq : q < s.n) (x : Int) : (tf s).set 7 (.r ((flat s.n s.ways).set (p * s.n + q) (s.ways p q ++ [x]))) = tf (s.push p q x) := by
  rw [flat_set _ hq]; rfl
theorem tf_pop (s : TNet) {p q : Nat} (hq : q < s.n) : (tf s).set 7 (.r ((flat s.n s.ways).set (p * s.n + q) (s.ways p q).tail)) = tf (s.pop p q) := by
  rw [flat_set _ hq]; rfl
theorem tf_had (s : TNet) (p q : Nat) (x : Int) : (tf s).set 2 (.r (s.hadL.set p ((line s.n (s.had p)).set q x))) = tf { s with had := put2 s.had p q x } := by
  rw [s.had_put]; rfl
theorem tf_served (s : TNet) (p : Nat) (x : Int) : (tf s).set 5 (.l ((line s.n s.served).set p x)) = tf { s with served := put1 s.served p x } := by
  rw [line_set]; rfl
theorem tf_queue (s : TNet) (l : List Int) : (tf s).set 6 (.l l) = tf { s with queue := l } := rfl

theorem stOf_eq {n : Nat} {s s' : TNet} {p : Nat} {x : Int} (hx : s'.stOf p = x) (hne : ∀ q, q ≠ p → s'.inn q = s.inn q ∧ s'.asks q = s.asks q) : (line n s.stOf).set p x = line n s'.stOf := by
  rw [line_set]
  refine line_congr fun q _ => ?_
  by_cases e : q = p
  · subst e; rw [put1_self, hx]
  · rw [put1_ne _ _ e]; unfold TNet.stOf; rw [(hne q e).1, (hne q e).2]

theorem tf_in (s : TNet) (p : Nat) : (tf s).set 1 (.l ((line s.n s.stOf).set p 2)) = tf { s with inn := put1 s.inn p true } := by
  rw [stOf_eq (s := s) (s' := { s with inn := put1 s.inn p true }) (by unfold TNet.stOf; show (if put1 s.inn p true p = true then (2 : Int) else _) = 2; rw [put1_self, if_pos rfl]) (fun q hq => ⟨put1_ne _ _ hq, rfl⟩)]; rfl
theorem tf_asks (s : TNet) {p : Nat} (hi : s.inn p = false) : (tf s).set 1 (.l ((line s.n s.stOf).set p 1)) = tf { s with asks := put1 s.asks p true } := by
  rw [stOf_eq (s := s) (s' := { s with asks := put1 s.asks p true }) (by unfold TNet.stOf; show (if s.inn p = true then (2 : Int) else if put1 s.asks p true p = true then 1 else 0) = 1; rw [hi, put1_self]; rfl) (fun q hq => ⟨rfl, put1_ne _ _ hq⟩)]; rfl
theorem tf_out (s : TNet) {p : Nat} (ha : s.asks p = false) : (tf s).set 1 (.l ((line s.n s.stOf).set p 0)) = tf { s with inn := put1 s.inn p false } := by
  rw [stOf_eq (s := s) (s' := { s with inn := put1 s.inn p false }) (by unfold TNet.stOf; show (if put1 s.inn p false p = true then (2 : Int) else if s.asks p = true then 1 else 0) = 0; rw [put1_self, ha]; rfl) (fun q hq => ⟨put1_ne _ _ hq, rfl⟩)]; rfl

theorem stOf_two {s : TNet} {p : Nat} : s.stOf p = 2 ↔ s.inn p = true := by
  unfold TNet.stOf
  cases h1 : s.inn p <;> cases h2 : s.asks p <;> simp
theorem stOf_zero {s : TNet} {p : Nat} : s.stOf p = 0 ↔ ¬ (s.asks p = true ∨ s.inn p = true) := by
  unfold TNet.stOf
  cases h1 : s.inn p <;> cases h2 : s.asks p <;> simp
theorem stateOf_in {s : TNet} {p : Nat} (hp : p < s.n) : s.stateOf p = s.stOf p := by
  unfold TNet.stateOf TNet.stOf
  rw [if_pos ((s.is_iff p).2 ⟨p, rfl, hp⟩), Int.toNat_natCast]

/-- Giving on: three fields. -/
theorem tf_give {s : TNet} {x : Int} {l : List Int} (h : s.queue = x :: l) : (((tf s).set 3 (.i (-1))).set 4 (.i x)).set 6 (.l l) = tf s.give := by
  unfold TNet.give
  rw [h]
  show [Fd.i s.n, .l (line s.n s.stOf), .r s.hadL, .i (-1), .i x, .l (line s.n s.served), .l l, .r (flat s.n s.ways)] = _
  unfold tf TNet.targetOf
  rw [if_pos (show ({ s with holder := -1, target := x, queue := l } : TNet).holder < 0 by show (-1 : Int) < 0; omega)]
  rfl
theorem give_nil {s : TNet} (h : s.queue = []) : s.give = s := by unfold TNet.give; rw [h]

/-- Bringing: three fields. -/
theorem tf_bring {s : TNet} {k : Nat} (ht : s.target = k) (hk : s.holder < 0) : (((tf s).set 3 (.i s.targetOf)).set 4 (.i (-1))).set 1 (.l ((line s.n s.stOf).set k 2)) = tf s.bring0 := by
  have e0 : s.targetOf = k := by unfold TNet.targetOf; rw [if_pos hk, ht]
  have e1 : s.bring0.targetOf = -1 := by unfold TNet.targetOf; rw [if_neg (show ¬ s.bring0.holder < 0 by show ¬ s.target < 0; rw [ht]; omega)]
  have e2 : (line s.n s.stOf).set k 2 = line s.n s.bring0.stOf := by
    refine stOf_eq ?_ fun q hq => ?_
    · rw [stOf_two]
      show put1 s.inn s.target.toNat true k = true
      rw [ht, Int.toNat_natCast, put1_self]
    · have hq2 : q ≠ s.target.toNat := by rw [ht, Int.toNat_natCast]; exact hq
      exact ⟨put1_ne _ _ hq2, put1_ne _ _ hq2⟩
  rw [e0, e2]
  show [Fd.i s.n, .l (line s.n s.bring0.stOf), .r s.hadL, .i (k : Int), .i (-1), .l (line s.n s.served), .l s.queue, .r (flat s.n s.ways)] = tf s.bring0
  unfold tf
  rw [e1]
  show _ = [Fd.i s.n, .l (line s.n s.bring0.stOf), .r s.hadL, .i s.target, .i (-1), .l (line s.n s.served), .l s.queue, .r (flat s.n s.ways)]
  rw [ht]

end Go.Proofs.YthblnljjhbdejaaDoor
