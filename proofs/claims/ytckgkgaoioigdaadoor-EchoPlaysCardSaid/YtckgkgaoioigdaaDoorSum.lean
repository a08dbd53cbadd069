/-
  Sums over the first so many numbers, what one change does to them; a list without repetition of numbers below n is no longer than n.
  Conditions: none beyond those of each lemma.
-/
import Derived.Test.YtckgkgaoioigdaaDoorRows
namespace Go.Proofs.YtckgkgaoioigdaaDoor

def sumN : Nat → (Nat → Int) → Int
  | 0, _ => 0
  | n + 1, f => sumN n f + f n

theorem sum_congr : ∀ {n : Nat} {f g : Nat → Int}, (∀ j, j < n → f j = g j) → sumN n f = sumN n g
  | 0, _, _, _ => rfl
  | n + 1, f, g, h => by
    have h1 := sum_congr (n := n) (f := f) (g := g) (fun j hj => h j (by omega))
    have h2 := h n (by omega)
    simp only [sumN]; omega

theorem sum_upd : ∀ {n : Nat} {f g : Nat → Int} {p : Nat}, p < n → (∀ j, j < n → j ≠ p → g j = f j) → sumN n g = sumN n f + (g p - f p)
  | n + 1, f, g, p, hp, h => by
    by_cases e : p = n
    · subst e
      have := sum_congr (n := p) (f := g) (g := f) (fun j hj => h j (by omega) (by omega))
      simp only [sumN]; omega
    · have h1 := sum_upd (n := n) (f := f) (g := g) (p := p) (by omega) (fun j hj hne => h j (by omega) hne)
      have h2 := h n (by omega) (fun e' => e e'.symm)
      simp only [sumN]; omega

theorem sum_nonneg : ∀ {n : Nat} {f : Nat → Int}, (∀ j, j < n → 0 ≤ f j) → 0 ≤ sumN n f
  | 0, _, _ => by simp [sumN]
  | n + 1, f, h => by
    have h1 := sum_nonneg (n := n) (f := f) (fun j hj => h j (by omega))
    have h2 := h n (by omega)
    simp only [sumN]; omega

theorem sum_ge : ∀ {n : Nat} {f : Nat → Int} {p : Nat}, (∀ j, j < n → 0 ≤ f j) → p < n → f p ≤ sumN n f
  | n + 1, f, p, h, hp => by
    have h0 := sum_nonneg (n := n) (f := f) (fun j hj => h j (by omega))
    by_cases e : p = n
    · subst e; simp only [sumN]; omega
    · have h1 := sum_ge (n := n) (f := f) (p := p) (fun j hj => h j (by omega)) (by omega)
      have h2 := h n (by omega)
      simp only [sumN]; omega

theorem sum_zero {n : Nat} {f : Nat → Int} (h : ∀ j, j < n → f j = 0) : sumN n f = 0 := by
  induction n with
  | zero => rfl
  | succ n ih => simp only [sumN]; rw [ih (fun j hj => h j (by omega)), h n (by omega)]; rfl

/-- A sum that is more than nothing has something in it. -/
theorem sum_pos : ∀ {n : Nat} {f : Nat → Int}, 0 < sumN n f → ∃ j, j < n ∧ 0 < f j
  | 0, f, h => by simp [sumN] at h
  | n + 1, f, h => by
    by_cases h1 : 0 < f n
    · exact ⟨n, by omega, h1⟩
    · have : 0 < sumN n f := by simp only [sumN] at h; omega
      obtain ⟨j, hj, hf⟩ := sum_pos this
      exact ⟨j, by omega, hf⟩

theorem sum_add : ∀ {n : Nat} {f g : Nat → Int}, sumN n (fun j => f j + g j) = sumN n f + sumN n g
  | 0, _, _ => rfl
  | n + 1, f, g => by
    have := sum_add (n := n) (f := f) (g := g)
    simp only [sumN]; omega

theorem sum_le {n : Nat} {f g : Nat → Int} (h : ∀ j, j < n → f j ≤ g j) : sumN n f ≤ sumN n g := by
  induction n with
  | zero => simp [sumN]
  | succ n ih =>
    have h1 := ih (fun j hj => h j (by omega))
    have h2 := h n (by omega)
    simp only [sumN]; omega

theorem sum_const (n : Nat) (c : Int) : sumN n (fun _ => c) = n * c := by
  induction n with
  | zero => simp [sumN]
  | succ n ih => simp only [sumN]; rw [ih]; push_cast; rw [Int.add_mul]; omega

def sum2 (n : Nat) (f : Nat → Nat → Int) : Int := sumN n fun p => sumN n (f p)

theorem sum2_congr {n : Nat} {f g : Nat → Nat → Int} (h : ∀ p q, p < n → q < n → f p q = g p q) : sum2 n f = sum2 n g :=
  sum_congr fun p hp => sum_congr fun q hq => h p q hp hq

theorem sum2_upd {n : Nat} {f g : Nat → Nat → Int} {p q : Nat} (hp : p < n) (hq : q < n) (h : ∀ a b, a < n → b < n → (a ≠ p ∨ b ≠ q) → g a b = f a b) : sum2 n g = sum2 n f + (g p q - f p q) := by
  have h1 : sumN n (g p) = sumN n (f p) + (g p q - f p q) := sum_upd hq (fun j hj hne => h p j hp hj (.inr hne))
  have h2 : sum2 n g = sum2 n f + (sumN n (g p) - sumN n (f p)) :=
    sum_upd (f := fun p => sumN n (f p)) (g := fun p => sumN n (g p)) hp (fun j hj hne => sum_congr fun b hb => h j b hj hb (.inl hne))
  omega

theorem sum2_nonneg {n : Nat} {f : Nat → Nat → Int} (h : ∀ p q, p < n → q < n → 0 ≤ f p q) : 0 ≤ sum2 n f :=
  sum_nonneg fun p hp => sum_nonneg fun q hq => h p q hp hq

theorem sum2_ge {n : Nat} {f : Nat → Nat → Int} {p q : Nat} (h : ∀ p q, p < n → q < n → 0 ≤ f p q) (hp : p < n) (hq : q < n) : f p q ≤ sum2 n f :=
  Int.le_trans (sum_ge (fun j hj => h p j hp hj) hq) (sum_ge (f := fun p => sumN n (f p)) (fun j hj => sum_nonneg fun q hq => h j q hj hq) hp)

theorem sum2_zero {n : Nat} {f : Nat → Nat → Int} (h : ∀ p q, p < n → q < n → f p q = 0) : sum2 n f = 0 :=
  sum_zero fun p hp => sum_zero fun q hq => h p q hp hq

theorem nodup_le : ∀ (n : Nat) (l : List Nat), l.Nodup → (∀ x ∈ l, x < n) → l.length ≤ n
  | 0, l, _, h => by
    cases l with
    | nil => simp
    | cons a l => exact absurd (h a (by simp)) (by omega)
  | n + 1, l, hd, h => by
    have h1 : ∀ x ∈ l.erase n, x < n := fun x hx => by
      have h2 := h x (List.mem_of_mem_erase hx)
      have : x ≠ n := fun e => by
        subst e
        exact hd.not_mem_erase hx
      omega
    have h3 := nodup_le n (l.erase n) (hd.erase n) h1
    have h4 := List.length_erase (l := l) (a := n)
    split at h4 <;> omega

/-- A table with one place changed. -/
def put2 {α : Type} (f : Nat → Nat → α) (p q : Nat) (v : α) : Nat → Nat → α := fun a b => if a = p ∧ b = q then v else f a b
theorem put2_self {α : Type} (f : Nat → Nat → α) (p q : Nat) (v : α) : put2 f p q v p q = v := by simp [put2]
theorem put2_ne {α : Type} (f : Nat → Nat → α) {p q a b : Nat} (v : α) (h : a ≠ p ∨ b ≠ q) : put2 f p q v a b = f a b := by
  unfold put2; rw [if_neg]; omega

def put1 {α : Type} (f : Nat → α) (p : Nat) (v : α) : Nat → α := fun a => if a = p then v else f a
theorem put1_self {α : Type} (f : Nat → α) (p : Nat) (v : α) : put1 f p v p = v := by simp [put1]
theorem put1_ne {α : Type} (f : Nat → α) {p a : Nat} (v : α) (h : a ≠ p) : put1 f p v a = f a := by simp [put1, h]

end Go.Proofs.YtckgkgaoioigdaaDoor
