/-
  The document's lock for which one asks all others, field by field, and what each deed does to the fields.
  Conditions: none beyond those of each lemma.
-/
import Derived.Test.YtmkjfiopkmcjcaaDoorGrD
import Derived.Test.YtmkjfiopkmcjcaaDoorBox
import Derived.Test.YtmkjfiopkmcjcaaDoorSetB
import Derived.Test.YtmkjfiopkmcjcaaDoorFlat
namespace Go.Proofs.YtmkjfiopkmcjcaaDoor
open Go Go.RowKit

def natL (n : Nat) (f : Nat → Nat) : List Int := line n fun p => (f p : Int)
theorem natL_len (n : Nat) (f : Nat → Nat) : (natL n f).length = n := line_len _ _
theorem natL_at {n : Nat} (f : Nat → Nat) {p : Nat} (hp : p < n) (d : Int) : (natL n f).getD p d = (f p : Int) := line_at _ hp d
theorem natL_set {n : Nat} (f : Nat → Nat) {p : Nat} (x : Nat) : (natL n f).set p (x : Int) = natL n (put1 f p x) := by
  unfold natL
  rw [line_set]
  refine line_congr fun q _ => ?_
  by_cases e : q = p
  · subst e; rw [put1_self, put1_self]
  · rw [put1_ne _ _ e, put1_ne _ _ e]

/-- The document's net, field by field. -/
def gf (s : GNet) : List Fd := [.i s.n, .l (line s.n s.st), .l (line s.n s.ck), .l (line s.n s.tm), .l (natL s.n s.gr), .l (natL s.n s.wt), .r (flat s.n s.ways)]

theorem gf_push (s : GNet) {p q : Nat} (hq : q < s.n) (x : Int) : (gf s).set 6 (.r ((flat s.n s.ways).set (p * s.n + q) (s.ways p q ++ [x]))) = gf (s.push p q x) := by
  rw [flat_set _ hq]; rfl
theorem gf_pop (s : GNet) {p q : Nat} (hq : q < s.n) : (gf s).set 6 (.r ((flat s.n s.ways).set (p * s.n + q) (s.ways p q).tail)) = gf (s.pop p q) := by
  rw [flat_set _ hq]; rfl
theorem gf_st (s : GNet) (p : Nat) (x : Int) : (gf s).set 1 (.l ((line s.n s.st).set p x)) = gf { s with st := put1 s.st p x } := by
  rw [line_set]; rfl
theorem gf_ck (s : GNet) (p : Nat) (x : Int) : (gf s).set 2 (.l ((line s.n s.ck).set p x)) = gf { s with ck := put1 s.ck p x } := by
  rw [line_set]; rfl
theorem gf_tm (s : GNet) (p : Nat) (x : Int) : (gf s).set 3 (.l ((line s.n s.tm).set p x)) = gf { s with tm := put1 s.tm p x } := by
  rw [line_set]; rfl
theorem gf_gr (s : GNet) (p x : Nat) : (gf s).set 4 (.l ((natL s.n s.gr).set p (x : Int))) = gf { s with gr := put1 s.gr p x } := by
  rw [natL_set]; rfl
theorem gf_wt (s : GNet) (p x : Nat) : (gf s).set 5 (.l ((natL s.n s.wt).set p (x : Int))) = gf { s with wt := put1 s.wt p x } := by
  rw [natL_set]; rfl

theorem others_eq : ∀ n : Nat, n < 5 → ∀ p : Nat, p < n → othersN n p = 2 ^ n - 1 - 2 ^ p := by decide +kernel
theorem others_int {n p : Nat} (h4 : n ≤ 4) (hp : p < n) : ((2 ^ n : Nat) : Int) - 1 - ((2 ^ p : Nat) : Int) = (othersN n p : Int) := by
  rw [others_eq n (by omega) p hp]
  have h1 : 2 ^ p ≤ 2 ^ (n - 1) := Nat.pow_le_pow_right (by omega) (by omega)
  have h2 : 2 ^ n = 2 ^ (n - 1) + 2 ^ (n - 1) := by
    obtain ⟨m, rfl⟩ : ∃ m, n = m + 1 := ⟨n - 1, by omega⟩
    rw [Nat.pow_succ, Nat.add_sub_cancel]; omega
  have h3 := Nat.pow_pos (n := n - 1) (show 0 < 2 by omega)
  omega
theorem withB_or : ∀ x : Nat, x < 16 → ∀ i : Nat, i < 4 → withB x i = x ||| 2 ^ i := by decide +kernel

end Go.Proofs.YtmkjfiopkmcjcaaDoor
