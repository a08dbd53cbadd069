/-
  Who may move, plain: a move makes no more of them; whether a number is in a set.
  Conditions: none beyond those of each lemma.
-/
import Derived.Test.YtghamcjcihiopaaDoorStMath
import Derived.Test.YtghamcjcihiopaaDoorBit
namespace Go.Proofs.YtghamcjcihiopaaDoor
open Go

theorem cnt_less {f g : Nat → Bool} {i j : Nat} (hi : f i = true) (hg : g i = false) (hs : ∀ k, k ≠ i → k ≠ j → g k = f k) (hij : i ≠ j) : ∀ n, cnt g n + (if i < n then 1 else 0) ≤ cnt f n + (if j < n then 1 else 0)
  | 0 => by simp [cnt]
  | n + 1 => by
    have := cnt_less hi hg hs hij n
    unfold cnt
    have hmo : (if j < n then 1 else 0) ≤ (if j < n + 1 then 1 else 0) := by split <;> split <;> omega
    by_cases h1 : n = i
    · subst h1
      rw [if_neg (Nat.lt_irrefl n)] at this
      rw [hi, hg, if_pos (Nat.lt_succ_self n), if_pos rfl, if_neg (by simp)]
      omega
    · by_cases h2 : n = j
      · subst h2
        have hg1 : (if g n = true then 1 else 0) ≤ 1 := by split <;> omega
        have hi1 : (if i < n + 1 then 1 else 0) = (if i < n then 1 else 0) := by simp only [show i < n + 1 ↔ i < n by omega]
        rw [if_neg (Nat.lt_irrefl n)] at this
        rw [if_pos (Nat.lt_succ_self n), hi1]
        omega
      · rw [hs n h1 h2]
        have e1 : (i < n + 1) ↔ (i < n) := by omega
        have e2 : (j < n + 1) ↔ (j < n) := by omega
        simp only [e1, e2]
        omega

theorem moved_may {l : List Int} {kinds : Int} {i : Nat} (hg : stErr l kinds = 0) (hi : i < l.length) (hm : mayB l i = true) :
    mayB (moved l kinds i) i = false ∧ ∀ k, k < l.length → k ≠ i → k ≠ (i + 1) % l.length → mayB (moved l kinds i) k = mayB l k := by
  obtain ⟨h1, h2, h3, h4, h5⟩ := stErr_good hg
  have hml := moved_length l kinds i
  have hx : ∀ j, (moved l kinds i).getD j 0 = if i = j then (if i = 0 then (l.getD 0 0 + 1) % kinds else l.getD (i - 1) 0) else l.getD j 0 := fun j => moved_getD hi
  constructor
  · by_cases h0 : i = 0
    · subst h0
      have heq := (mayB_zero l).1 hm
      have hb := h5 0 (by omega)
      rw [mayB_zero', hml, hx 0, hx (l.length - 1), if_pos rfl, if_pos rfl, if_neg (by omega), ← heq]
      intro he
      by_cases hlt : l.getD 0 0 + 1 < kinds
      · rw [Int.emod_eq_of_lt (by omega) hlt] at he; omega
      · have : l.getD 0 0 + 1 = kinds := by omega
        rw [this, Int.emod_self] at he; omega
    · rw [mayB_pos' h0, hx i, hx (i - 1), if_pos rfl, if_neg h0, if_neg (by omega)]
  · intro k hk hki hkn
    unfold mayB
    rw [hml]
    by_cases hk0 : k = 0
    · subst hk0
      rw [if_pos rfl, if_pos rfl, hx 0, hx (l.length - 1), if_neg (by omega)]
      rw [if_neg ?_]
      intro he
      apply hkn
      rw [he, show l.length - 1 + 1 = l.length by omega, Nat.mod_self]
    · rw [if_neg hk0, if_neg hk0, hx k, hx (k - 1), if_neg (by omega)]
      rw [if_neg ?_]
      intro he
      apply hkn
      rw [Nat.mod_eq_of_lt (by omega)]
      omega

theorem mayB_congr {l : List Int} {kinds : Int} {i : Nat} (hg : stErr l kinds = 0) (hi : i < l.length) (hm : mayB l i = true) : cnt (mayB (moved l kinds i)) l.length ≤ cnt (mayB l) l.length := by
  obtain ⟨h1, h2, h3, h4, h5⟩ := stErr_good hg
  obtain ⟨k1, k2⟩ := moved_may hg hi hm
  have hne : i ≠ (i + 1) % l.length := by
    by_cases h : i + 1 < l.length
    · rw [Nat.mod_eq_of_lt h]; omega
    · rw [show i + 1 = l.length by omega, Nat.mod_self]; omega
  have hlt : (i + 1) % l.length < l.length := Nat.mod_lt _ (by omega)
  have hc : ∀ (f g : Nat → Bool) m, (∀ k, k < m → f k = g k) → cnt f m = cnt g m := fun f g m => by
    induction m with
    | zero => intro _; rfl
    | succ m ih => intro h; unfold cnt; rw [ih (fun k hk => h k (by omega)), h m (by omega)]
  have := cnt_less (f := fun k => if k < l.length then mayB l k else false) (g := fun k => if k < l.length then mayB (moved l kinds i) k else false) (i := i) (j := (i + 1) % l.length) (by simp [hi, hm]) (by simp [k1]) (fun k h1 h2 => by
    by_cases h : k < l.length
    · simp only [if_pos h]; exact k2 k h h1 h2
    · simp [h]) hne l.length
  rw [if_pos hi, if_pos hlt, hc _ (mayB l) _ (fun k hk => if_pos hk), hc _ (mayB (moved l kinds i)) _ (fun k hk => if_pos hk)] at this
  omega

theorem bit5 : ∀ a b c d e : Bool, ∀ j, j < 5 → bitB (0 + (if a then 2 ^ 0 else 0) + (if b then 2 ^ 1 else 0) + (if c then 2 ^ 2 else 0) + (if d then 2 ^ 3 else 0) + (if e then 2 ^ 4 else 0)) j = [a, b, c, d, e].getD j false := by decide +kernel

theorem setB_pad (f : Nat → Bool) (n : Nat) : ∀ m, setB (fun k => if k < n then f k else false) (n + m) = setB f n
  | 0 => by
    have : ∀ m, m ≤ n → setB (fun k => if k < n then f k else false) m = setB f m := fun m => by
      induction m with
      | zero => intro _; rfl
      | succ m ih =>
        intro h
        unfold setB
        rw [ih (by omega)]
        simp only [if_pos (show m < n by omega)]
    exact this n (Nat.le_refl _)
  | m + 1 => by
    have := setB_pad f n m
    rw [← Nat.add_assoc]
    rw [setB, this]
    simp
    intro h; omega

theorem bit_setB (f : Nat → Bool) (n j : Nat) (hn : n ≤ 5) (hj : j < n) : bitB (setB f n) j = f j := by
  have h := setB_pad f n (5 - n)
  rw [show n + (5 - n) = 5 by omega] at h
  rw [← h]
  have h2 := bit5 (if 0 < n then f 0 else false) (if 1 < n then f 1 else false) (if 2 < n then f 2 else false) (if 3 < n then f 3 else false) (if 4 < n then f 4 else false) j (by omega)
  refine h2.trans ?_
  rcases (by omega : j = 0 ∨ j = 1 ∨ j = 2 ∨ j = 3 ∨ j = 4) with rfl | rfl | rfl | rfl | rfl <;> simp [hj]

theorem cnt_pos {f : Nat → Bool} {j : Nat} : ∀ n, j < n → f j = true → 1 ≤ cnt f n
  | 0, h, _ => by omega
  | n + 1, h, hf => by
    unfold cnt
    by_cases e : j = n
    · subst e; rw [hf]; simp
    · have := cnt_pos n (by omega) hf; omega
theorem setB_pos {f : Nat → Bool} {j : Nat} : ∀ n, j < n → f j = true → 1 ≤ setB f n
  | 0, h, _ => by omega
  | n + 1, h, hf => by
    unfold setB
    by_cases e : j = n
    · subst e; rw [hf, if_pos rfl]; have := Nat.two_pow_pos j; omega
    · have := setB_pos n (by omega) hf; omega
theorem cnt_uniq {f : Nat → Bool} {i : Nat} : ∀ n, cnt f n ≤ 1 → i < n → f i = true → ∀ j, j < n → j ≠ i → f j = false
  | 0, _, h, _ => by omega
  | n + 1, hc, hi, hf => by
    intro j hj hji
    unfold cnt at hc
    by_cases e1 : i = n
    · subst e1
      rw [hf, if_pos rfl] at hc
      have h0 : cnt f i = 0 := by omega
      cases hfj : f j with
      | false => rfl
      | true => have := cnt_pos (j := j) i (by omega) hfj; omega
    · have h1 := cnt_pos (j := i) n (by omega) hf
      by_cases e2 : j = n
      · subst e2
        cases hfj : f j with
        | false => rfl
        | true => rw [hfj, if_pos rfl] at hc; omega
      · exact cnt_uniq n (by omega) (by omega) hf j (by omega) hji
end Go.Proofs.YtghamcjcihiopaaDoor
