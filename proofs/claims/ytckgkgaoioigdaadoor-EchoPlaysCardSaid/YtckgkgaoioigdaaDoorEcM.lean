/-
  The document's wave that comes back, field by field, and what each deed does to the fields.
  Conditions: none beyond those of each lemma.
-/
import Derived.Test.YtckgkgaoioigdaaDoorEcMath4
import Derived.Test.YtckgkgaoioigdaaDoorEcF
import Derived.Test.YtckgkgaoioigdaaDoorBox
import Derived.Test.YtckgkgaoioigdaaDoorFlat
import Derived.Test.YtckgkgaoioigdaaDoorSetB
namespace Go.Proofs.YtckgkgaoioigdaaDoor
open Go Go.RowKit

def lineN (n : Nat) (f : Nat → Nat) : List Int := line n fun p => (f p : Int)
theorem lineN_len (n : Nat) (f : Nat → Nat) : (lineN n f).length = n := line_len _ _
theorem lineN_at {n : Nat} (f : Nat → Nat) {p : Nat} (hp : p < n) (d : Int) : (lineN n f).getD p d = f p := line_at _ hp d
theorem lineN_set {n : Nat} (f : Nat → Nat) {p x : Nat} : (lineN n f).set p (x : Int) = lineN n (put1 f p x) := by
  unfold lineN
  rw [line_set]
  refine line_congr fun q _ => ?_
  by_cases e : q = p
  · subst e; rw [put1_self, put1_self]
  · rw [put1_ne _ _ e, put1_ne _ _ e]

/-- The document's wave, field by field. -/
def ef (s : Wv) : List Fd := [.l (lineN s.n s.near), .l (line s.n s.parent), .l (lineN s.n s.heard), .l (flat s.n s.ways), .i s.sent, .b s.done]

theorem ef_way (s : Wv) {p q : Nat} (hq : q < s.n) (x : Int) : (ef s).set 3 (.l ((flat s.n s.ways).set (p * s.n + q) x)) = ef { s with ways := put2 s.ways p q x } := by
  rw [flat_set _ hq]; rfl
theorem ef_sent (s : Wv) (x : Int) : (ef s).set 4 (.i x) = ef { s with sent := x } := rfl
theorem ef_done (s : Wv) (x : Bool) : (ef s).set 5 (.b x) = ef { s with done := x } := rfl
theorem ef_heard (s : Wv) (p : Nat) (x : Nat) : (ef s).set 2 (.l ((lineN s.n s.heard).set p (x : Int))) = ef { s with heard := put1 s.heard p x } := by
  rw [lineN_set]; rfl
theorem ef_parent (s : Wv) (p : Nat) (x : Int) : (ef s).set 1 (.l ((line s.n s.parent).set p x)) = ef { s with parent := put1 s.parent p x } := by
  rw [line_set]; rfl
theorem ef_reach (s : Wv) (p q : Nat) : ef { s with parent := put1 s.parent q (p : Int) } = ef (s.reach p q) := rfl

theorem ef_spread (s : Wv) (p m j : Nat) (hj : j < s.n) (hb : m.testBit j = true) :
    ((ef (s.spreadTo p m j)).set 3 (.l ((flat s.n (s.spreadTo p m j).ways).set (p * s.n + j) ((s.spreadTo p m j).ways p j + 1)))).set 4 (.i ((s.spreadTo p m j).sent + 1)) = ef (s.spreadTo p m (j + 1)) := by
  rw [flat_set _ hj, Wv.spreadTo, if_pos hb]
  unfold ef
  have hn := spreadTo_n s p m j
  show [Fd.l (lineN (s.spreadTo p m j).n _), _, _, Fd.l (flat s.n _), _, _] = _
  rw [show (flat s.n (put2 (s.spreadTo p m j).ways p j ((s.spreadTo p m j).ways p j + 1))) = flat (s.spreadTo p m j).n (put2 (s.spreadTo p m j).ways p j ((s.spreadTo p m j).ways p j + 1)) by rw [hn]]
theorem spread_skip (s : Wv) (p m j : Nat) (hb : m.testBit j = false) : s.spreadTo p m (j + 1) = s.spreadTo p m j := by
  rw [Wv.spreadTo, if_neg (by rw [hb]; simp)]

theorem withB_or32 : ∀ x, x < 32 → ∀ i, i < 5 → withB x i = x ||| 2 ^ i := by decide +kernel
theorem withB_or {x i : Nat} (hx : x < 32) (hi : i < 5) : withB x i = x ||| 2 ^ i := withB_or32 x hx i hi
theorem but32 : ∀ x, x < 32 → ∀ i, i < 5 → x.testBit i = true → (x ^^^ (x &&& 2 ^ i)) + 2 ^ i = x := by decide +kernel
theorem but_sub (s : Wv) (p q : Nat) (hx : s.near q < 32) (hp : p < 5) (h : s.nr q p = true) : s.but p q + 2 ^ p = s.near q := but32 _ hx p hp h

end Go.Proofs.YtckgkgaoioigdaaDoor
