/-
  Functions of one and of two places as lists: how a place is read, and changed.
  Conditions: the places lie below n.
-/
import Derived.Test.YtckgkgaoioigdaaDoorSum
namespace Go.Proofs.YtckgkgaoioigdaaDoor

def line {α : Type} (n : Nat) (f : Nat → α) : List α := (List.range n).map f
def flat {α : Type} (n : Nat) (W : Nat → Nat → α) : List α := (List.range (n * n)).map fun k => W (k / n) (k % n)

theorem line_len {α : Type} (n : Nat) (f : Nat → α) : (line n f).length = n := by simp [line]
theorem line_at {α : Type} {n : Nat} (f : Nat → α) {p : Nat} (hp : p < n) (d : α) : (line n f).getD p d = f p := by simp [line, List.getD, hp]
theorem line_set {α : Type} {n : Nat} (f : Nat → α) {p : Nat} (x : α) : (line n f).set p x = line n (put1 f p x) := by
  apply List.ext_getElem
  · simp [line]
  · intro j h1 h2
    rw [List.getElem_set]
    simp only [line, List.getElem_map, List.getElem_range]
    by_cases e : p = j
    · subst e; rw [if_pos rfl, put1_self]
    · rw [if_neg e, put1_ne _ _ (Ne.symm e)]
theorem line_congr {α : Type} {n : Nat} {f g : Nat → α} (h : ∀ p, p < n → f p = g p) : line n f = line n g :=
  List.map_congr_left fun p hp => h p (List.mem_range.1 hp)

theorem flat_len {α : Type} (n : Nat) (W : Nat → Nat → α) : (flat n W).length = n * n := by simp [flat]
theorem flat_lt {n p q : Nat} (hp : p < n) (hq : q < n) : p * n + q < n * n := by
  have : (p + 1) * n ≤ n * n := Nat.mul_le_mul_right n hp
  rw [Nat.add_mul, Nat.one_mul] at this; omega
theorem flat_div {n p q : Nat} (hq : q < n) : (p * n + q) / n = p ∧ (p * n + q) % n = q := by
  have h0 : 0 < n := by omega
  rw [Nat.mul_comm p n]
  exact ⟨by rw [Nat.mul_add_div h0, Nat.div_eq_of_lt hq]; omega, by rw [Nat.mul_add_mod, Nat.mod_eq_of_lt hq]⟩
theorem flat_at {α : Type} {n : Nat} (W : Nat → Nat → α) {p q : Nat} (hp : p < n) (hq : q < n) (d : α) : (flat n W).getD (p * n + q) d = W p q := by
  have h1 := flat_lt hp hq
  obtain ⟨h2, h3⟩ := flat_div (p := p) hq
  simp [flat, List.getD, h1, h2, h3]
theorem flat_set {α : Type} {n : Nat} (W : Nat → Nat → α) {p q : Nat} (hq : q < n) (x : α) : (flat n W).set (p * n + q) x = flat n (put2 W p q x) := by
  apply List.ext_getElem
  · simp [flat]
  · intro j h1 h2
    rw [List.getElem_set]
    simp only [flat, List.getElem_map, List.getElem_range]
    obtain ⟨h3, h4⟩ := flat_div (p := p) hq
    by_cases e : p * n + q = j
    · subst e; rw [if_pos rfl, h3, h4, put2_self]
    · rw [if_neg e, put2_ne]
      by_cases e2 : j / n = p
      · right
        intro e3
        apply e
        have := Nat.div_add_mod j n
        rw [e2, e3, Nat.mul_comm] at this
        exact this
      · exact .inl e2

end Go.Proofs.YtckgkgaoioigdaaDoor
