/-
  The plain law of the ring that comes to order: no program in sight.
  Conditions: the states are well formed (stErr is 0).
-/
import Derived.Test.YtghamcjcihiopaaDoorStB
namespace Go.Proofs.YtghamcjcihiopaaDoor
open Go Go.RowKit

def StepR (kinds : Int) (a b : List Int) : Prop := ∃ i, i < a.length ∧ mayB a i = true ∧ b = moved a kinds i

/-- b comes of a by so many moves. -/
def Reach (kinds : Int) : Nat → List Int → List Int → Prop
  | 0, a, b => a = b
  | n + 1, a, c => ∃ b, Reach kinds n a b ∧ StepR kinds b c

theorem mayB_exists (l : List Int) (h : 2 ≤ l.length) : ∃ j, j < l.length ∧ mayB l j = true := by
  by_cases h1 : ∃ j, 0 < j ∧ j < l.length ∧ l.getD j 0 ≠ l.getD (j - 1) 0
  · obtain ⟨j, h2, h3, h4⟩ := h1
    exact ⟨j, h3, by unfold mayB; rw [if_neg (by omega)]; simpa using h4⟩
  · refine ⟨0, by omega, ?_⟩
    have all : ∀ j, j < l.length → l.getD j 0 = l.getD 0 0 := by
      intro j
      induction j with
      | zero => intro _; rfl
      | succ k ih =>
        intro hk
        have h2 : l.getD (k + 1) 0 = l.getD k 0 := by
          refine Classical.byContradiction fun hne => h1 ⟨k + 1, by omega, hk, ?_⟩
          simpa using hne
        rw [h2]; exact ih (by omega)
    unfold mayB
    rw [if_pos rfl, all (l.length - 1) (by omega)]
    simp

theorem moved_length (l : List Int) (kinds : Int) (i : Nat) : (moved l kinds i).length = l.length := by unfold moved; split <;> simp

/-- The first who may move, from a place on. -/
theorem first_mover (l : List Int) (h : 2 ≤ l.length) (i : Nat) : ∃ k, k < l.length ∧ mayB l ((i + k) % l.length) = true := by
  obtain ⟨j, hj, hm⟩ := mayB_exists l h
  have hn : 0 < l.length := by omega
  refine ⟨(j + l.length - i % l.length) % l.length, Nat.mod_lt _ hn, ?_⟩
  have h2 : (i + (j + l.length - i % l.length) % l.length) % l.length = j := by
    have h3 := Nat.mod_lt i hn
    have h4 := Nat.div_add_mod i l.length
    rw [Nat.add_mod_mod]
    have h5 : i + (j + l.length - i % l.length) = j + l.length * (i / l.length + 1) := by
      rw [Nat.mul_add, Nat.mul_one]; omega
    rw [h5, Nat.add_mul_mod_self_left]
    exact Nat.mod_eq_of_lt hj
  rw [h2]; exact hm

theorem stErr_of {l : List Int} {kinds : Int} (h1 : 2 ≤ l.length) (h2 : l.length ≤ 5) (h3 : (l.length : Int) ≤ kinds) (h4 : kinds ≤ 8) (h5 : ∀ j, j < l.length → 0 ≤ l.getD j 0 ∧ l.getD j 0 < kinds) : stErr l kinds = 0 := by
  unfold stErr
  rw [if_neg (by omega), if_neg (by omega), if_neg (by simp [inB]; omega), if_neg]
  rw [Bool.not_eq_true]
  refine any_none fun k hk => ?_
  have := h5 k hk
  generalize l.getD k 0 = x at *
  simp [inB]; omega

theorem getD_set {l : List Int} {i j : Nat} {x : Int} (hi : i < l.length) : (l.set i x).getD j 0 = if i = j then x else l.getD j 0 := by
  simp only [List.getD, List.getElem?_set]
  split
  · rename_i h; subst h; simp
  · rfl

theorem moved_getD {l : List Int} {kinds : Int} {i j : Nat} (hi : i < l.length) : (moved l kinds i).getD j 0 = if i = j then (if i = 0 then (l.getD 0 0 + 1) % kinds else l.getD (i - 1) 0) else l.getD j 0 := by
  unfold moved
  split
  · rename_i h; subst h; exact getD_set hi
  · exact getD_set hi

theorem moved_good {l : List Int} {kinds : Int} {i : Nat} (h : stErr l kinds = 0) (hi : i < l.length) : stErr (moved l kinds i) kinds = 0 := by
  obtain ⟨h1, h2, h3, h4, h5⟩ := stErr_good h
  refine stErr_of (by rw [moved_length]; exact h1) (by rw [moved_length]; exact h2) (by rw [moved_length]; exact h3) h4 fun j hj => ?_
  rw [moved_length] at hj
  rw [moved_getD hi]
  split
  · split
    · exact ⟨Int.emod_nonneg _ (by omega), Int.emod_lt_of_pos _ (by omega)⟩
    · exact h5 _ (by omega)
  · exact h5 j hj

theorem Reach.good {kinds : Int} : ∀ {n : Nat} {a b : List Int}, Reach kinds n a b → stErr a kinds = 0 → stErr b kinds = 0 ∧ b.length = a.length
  | 0, a, b, h, hg => by cases h; exact ⟨hg, rfl⟩
  | n + 1, a, c, ⟨b, hr, i, hi, _, hc⟩, hg => by
    have := Reach.good hr hg
    subst hc
    exact ⟨moved_good this.1 hi, by rw [moved_length]; exact this.2⟩

/-! ### How many may move -/
def cnt (f : Nat → Bool) : Nat → Nat
  | 0 => 0
  | n + 1 => cnt f n + if f n then 1 else 0

theorem popF_setB (f : Nat → Bool) (n : Nat) (hn : n ≤ 5) : popF 6 (setB f n) = cnt f n := by
  rcases (by omega : n = 0 ∨ n = 1 ∨ n = 2 ∨ n = 3 ∨ n = 4 ∨ n = 5) with rfl | rfl | rfl | rfl | rfl | rfl <;> simp only [setB, cnt] <;>
    cases f 0 <;> cases f 1 <;> cases f 2 <;> cases f 3 <;> cases f 4 <;> rfl

theorem cnt_none {f : Nat → Bool} : ∀ {n : Nat}, (∀ j, j < n → f j = false) → cnt f n = 0
  | 0, _ => rfl
  | n + 1, h => by rw [cnt, cnt_none fun j hj => h j (by omega), h n (by omega)]; rfl

theorem cnt_one {f : Nat → Bool} {i : Nat} : ∀ {n : Nat}, i < n → f i = true → (∀ j, j < n → j ≠ i → f j = false) → cnt f n = 1
  | n + 1, hi, hf, h => by
    by_cases e : i = n
    · subst e; rw [cnt, cnt_none fun j hj => h j (by omega) (by omega), hf]; rfl
    · rw [cnt, cnt_one (by omega) hf fun j hj => h j (by omega), h n (by omega) (by omega)]; rfl

/-- Node i alone may move. -/
def Uniq (l : List Int) (i : Nat) : Prop := i < l.length ∧ mayB l i = true ∧ ∀ j, j < l.length → j ≠ i → mayB l j = false

theorem Uniq.cnt {l : List Int} {i : Nat} (h : Uniq l i) : cnt (mayB l) l.length = 1 := cnt_one h.1 h.2.1 h.2.2

theorem mayB_zero (l : List Int) : mayB l 0 = true ↔ l.getD 0 0 = l.getD (l.length - 1) 0 := by unfold mayB; rw [if_pos rfl]; exact beq_iff_eq
theorem mayB_pos {l : List Int} {i : Nat} (hi : i ≠ 0) : mayB l i = true ↔ l.getD i 0 ≠ l.getD (i - 1) 0 := by unfold mayB; rw [if_neg hi]; exact bne_iff_ne
theorem mayB_zero' (l : List Int) : mayB l 0 = false ↔ l.getD 0 0 ≠ l.getD (l.length - 1) 0 := by rw [Bool.eq_false_iff, Ne, mayB_zero]
theorem mayB_pos' {l : List Int} {i : Nat} (hi : i ≠ 0) : mayB l i = false ↔ l.getD i 0 = l.getD (i - 1) 0 := by rw [Bool.eq_false_iff, Ne, mayB_pos hi]; exact Decidable.not_not

theorem chain {x : Nat → Int} {a : Nat} : ∀ m, (∀ j, a < j → j ≤ a + m → x j = x (j - 1)) → x (a + m) = x a
  | 0, _ => rfl
  | m + 1, h => by
    have h1 := h (a + (m + 1)) (by omega) (Nat.le_refl _)
    rw [h1, show a + (m + 1) - 1 = a + m by omega]
    exact chain m fun j h2 h3 => h j h2 (by omega)

theorem uniq_step {l : List Int} {kinds : Int} {i : Nat} (hg : stErr l kinds = 0) (h : Uniq l i) : Uniq (moved l kinds i) ((i + 1) % l.length) := by
  obtain ⟨h1, h2, h3, h4, h5⟩ := stErr_good hg
  obtain ⟨hi, hm, ho⟩ := h
  have hml := moved_length l kinds i
  have hx : ∀ j, (moved l kinds i).getD j 0 = if i = j then (if i = 0 then (l.getD 0 0 + 1) % kinds else l.getD (i - 1) 0) else l.getD j 0 := fun j => moved_getD hi
  by_cases h0 : i = 0
  · subst h0
    have heq : ∀ j, j < l.length → l.getD j 0 = l.getD 0 0 := fun j hj => by
      have := chain (x := fun j => l.getD j 0) (a := 0) j (fun k hk hk2 => (mayB_pos' (by omega)).1 (ho k (by omega) (by omega)))
      simpa using this
    have hb := h5 0 (by omega)
    have hne : (l.getD 0 0 + 1) % kinds ≠ l.getD 0 0 := by
      intro he
      by_cases hlt : l.getD 0 0 + 1 < kinds
      · rw [Int.emod_eq_of_lt (by omega) hlt] at he; omega
      · have : l.getD 0 0 + 1 = kinds := by omega
        rw [this, Int.emod_self] at he; omega
    rw [show (0 + 1) % l.length = 1 from Nat.mod_eq_of_lt (by omega)]
    refine ⟨by rw [hml]; omega, (mayB_pos (by omega)).2 ?_, fun j hj hj1 => ?_⟩
    · rw [hx 1, hx (1 - 1), if_neg (by omega), if_pos rfl, if_pos rfl, heq 1 (by omega)]; exact Ne.symm hne
    · rw [hml] at hj
      by_cases hj0 : j = 0
      · subst hj0
        rw [mayB_zero', hml, hx 0, hx (l.length - 1), if_pos rfl, if_pos rfl, if_neg (by omega), heq (l.length - 1) (by omega)]; exact hne
      · rw [mayB_pos' hj0, hx j, hx (j - 1), if_neg (by omega), if_neg (by omega), heq j hj, heq (j - 1) (by omega)]
  · have hmi := (mayB_pos h0).1 hm
    by_cases hl : i + 1 < l.length
    · rw [Nat.mod_eq_of_lt hl]
      refine ⟨by rw [hml]; exact hl, (mayB_pos (by omega)).2 ?_, fun j hj hj1 => ?_⟩
      · have hn := (mayB_pos' (by omega)).1 (ho (i + 1) hl (by omega))
        rw [hx (i + 1), hx (i + 1 - 1), if_neg (by omega), if_pos (by omega), if_neg h0, hn, show i + 1 - 1 = i by omega]; exact hmi
      · rw [hml] at hj
        by_cases hj0 : j = 0
        · subst hj0
          have hn := (mayB_zero' l).1 (ho 0 (by omega) (by omega))
          rw [mayB_zero', hml, hx 0, hx (l.length - 1), if_neg h0, if_neg (by omega)]; exact hn
        · rw [mayB_pos' hj0, hx j, hx (j - 1)]
          by_cases hji : i = j
          · subst hji; rw [if_pos rfl, if_neg h0, if_neg (by omega)]
          · have hn := (mayB_pos' hj0).1 (ho j hj (Ne.symm hji))
            rw [if_neg hji, if_neg (by omega)]; exact hn
    · have hil : i = l.length - 1 := by omega
      have hmod : (i + 1) % l.length = 0 := by rw [show i + 1 = l.length by omega]; exact Nat.mod_self _
      rw [hmod]
      have heq : l.getD (i - 1) 0 = l.getD 0 0 := by
        have := chain (x := fun j => l.getD j 0) (a := 0) (i - 1) (fun k hk hk2 => (mayB_pos' (by omega)).1 (ho k (by omega) (by omega)))
        simpa using this
      refine ⟨by rw [hml]; omega, (mayB_zero _).2 ?_, fun j hj hj1 => ?_⟩
      · rw [hml, hx 0, hx (l.length - 1), if_neg h0, if_pos hil, if_neg h0, heq]
      · rw [hml] at hj
        rw [mayB_pos' hj1, hx j, hx (j - 1)]
        by_cases hji : i = j
        · subst hji; rw [if_pos rfl, if_neg h0, if_neg (by omega)]
        · have hn := (mayB_pos' hj1).1 (ho j hj (Ne.symm hji))
          rw [if_neg hji, if_neg (by omega)]; exact hn

/-! ### It comes to order -/
/-- A value that none has behind the first place where node 0's own ends. -/
def Miss (l : List Int) (kinds : Int) (j : Nat) : Prop := ∀ i, i < l.length → (∃ m, m ≤ i ∧ l.getD m 0 ≠ l.getD 0 0) → l.getD i 0 ≠ (l.getD 0 0 + j) % kinds

/-- Who may move, but node 0, weighs the more the nearer it is to node 0. -/
def W (f : Nat → Bool) (n : Nat) : Nat → Nat
  | 0 => 0
  | m + 1 => W f n m + if m ≠ 0 ∧ f m = true then n - m else 0

def Pot (l : List Int) (kinds : Int) (b : Nat) : Prop := ∃ j, Miss l kinds j ∧ W (mayB l) l.length l.length + l.length * j ≤ b

theorem W_same {f g : Nat → Bool} {n : Nat} : ∀ {m : Nat}, (∀ j, j < m → j ≠ 0 → f j = g j) → W f n m = W g n m
  | 0, _ => rfl
  | m + 1, h => by
    rw [W, W, W_same fun j hj => h j (by omega)]
    by_cases hm : m = 0
    · simp [hm]
    · rw [h m (by omega) hm]

theorem W_less {f g : Nat → Bool} {n i : Nat} (hi : i ≠ 0) (hf : f i = true) (hg : g i = false) (h : ∀ j, j ≠ 0 → j ≠ i → j ≠ i + 1 → g j = f j) : ∀ m, i < m → m ≤ n → W g n m + 1 ≤ W f n m
  | m + 1, h1, h2 => by
    rw [W, W]
    by_cases e : m = i
    · subst e
      rw [W_same (f := g) (g := f) fun j hj hj0 => h j hj0 (by omega) (by omega), hf, hg]; simp [hi]; omega
    · by_cases e2 : m = i + 1
      · subst e2
        have h3 : W g n (i + 1) + (n - i) = W f n (i + 1) := by
          rw [W, W, W_same (f := g) (g := f) fun j hj hj0 => h j hj0 (by omega) (by omega), hf, hg]; simp [hi]
        split <;> split <;> omega
      · have := W_less (n := n) hi hf hg h m (by omega) (by omega)
        rw [h m (by omega) e e2]; omega

theorem W_more {f g : Nat → Bool} {n : Nat} (h : ∀ j, j ≠ 0 → j ≠ 1 → g j = f j) : ∀ m, m ≤ n → W g n m ≤ W f n m + (n - 1)
  | 0, _ => by simp [W]
  | m + 1, h2 => by
    rw [W, W]
    by_cases e : m = 0
    · subst e; simp [W]
    · by_cases e1 : m = 1
      · subst e1; simp only [W]; simp; split <;> omega
      · have := W_more (n := n) h m (by omega)
        rw [h m e e1]; omega

theorem W_le (f : Nat → Bool) (n : Nat) : ∀ m, W f n m ≤ m * n
  | 0 => by simp [W]
  | m + 1 => by
    have := W_le f n m
    rw [W, Nat.add_mul, Nat.one_mul]; split <;> omega

theorem full_length : ∀ (m : Nat) (l : List Int), (∀ y : Nat, y < m → (y : Int) ∈ l) → m ≤ l.length
  | 0, _, _ => Nat.zero_le _
  | m + 1, l, h => by
    have h1 := h m (by omega)
    have h2 := full_length m (l.erase (m : Int)) fun y hy => (List.mem_erase_of_ne (by omega)).2 (h y (by omega))
    rw [List.length_erase_of_mem h1] at h2
    have : 0 < l.length := List.length_pos_of_mem h1
    omega

theorem pot_start {l : List Int} {kinds : Int} (hg : stErr l kinds = 0) : Pot l kinds 65 := by
  obtain ⟨h1, h2, h3, h4, h5⟩ := stErr_good hg
  have hex : ∃ y : Nat, y < l.length ∧ (y : Int) ∉ l.tail := by
    refine Classical.byContradiction fun hno => ?_
    have := full_length l.length l.tail fun y hy => Classical.byContradiction fun hn => hno ⟨y, hy, hn⟩
    simp at this; omega
  obtain ⟨y, hy, hyn⟩ := hex
  have hx0 := h5 0 (by omega)
  refine ⟨(((y : Int) - l.getD 0 0) % kinds).toNat, fun i hi ⟨m, hm, hne⟩ he => ?_, ?_⟩
  · have hi0 : i ≠ 0 := by
      intro e; subst e
      have : m = 0 := by omega
      subst this; exact hne rfl
    have h6 : 0 ≤ ((y : Int) - l.getD 0 0) % kinds := Int.emod_nonneg _ (by omega)
    rw [Int.toNat_of_nonneg h6, Int.add_emod_emod, show l.getD 0 0 + ((y : Int) - l.getD 0 0) = y by omega, Int.emod_eq_of_lt (by omega) (by omega)] at he
    apply hyn
    rw [← he]
    have : l.getD i 0 = l.tail.getD (i - 1) 0 := by
      obtain ⟨i', rfl⟩ : ∃ i', i = i' + 1 := ⟨i - 1, by omega⟩
      cases l with
      | nil => simp at h1
      | cons a t => simp
    rw [this]
    have hlt : i - 1 < l.tail.length := by simp; omega
    simp only [List.getD, List.getElem?_eq_getElem hlt, Option.getD_some]
    exact List.getElem_mem hlt
  · have h6 := W_le (mayB l) l.length l.length
    have h7 : (((y : Int) - l.getD 0 0) % kinds).toNat ≤ 8 := by
      have := Int.emod_lt_of_pos ((y : Int) - l.getD 0 0) (show 0 < kinds by omega)
      omega
    have h8 : l.length * l.length ≤ 5 * 5 := Nat.mul_le_mul h2 h2
    have h9 : l.length * (((y : Int) - l.getD 0 0) % kinds).toNat ≤ 5 * 8 := Nat.mul_le_mul h2 h7
    omega

theorem pot_step {l : List Int} {kinds : Int} {i b : Nat} (hg : stErr l kinds = 0) (hi : i < l.length) (hm : mayB l i = true) (hne : ∃ m, m < l.length ∧ l.getD m 0 ≠ l.getD 0 0) (hp : Pot l kinds b) :
    1 ≤ b ∧ Pot (moved l kinds i) kinds (b - 1) := by
  obtain ⟨h1, h2, h3, h4, h5⟩ := stErr_good hg
  obtain ⟨j, hmiss, hb⟩ := hp
  have hml := moved_length l kinds i
  have hx : ∀ j, (moved l kinds i).getD j 0 = if i = j then (if i = 0 then (l.getD 0 0 + 1) % kinds else l.getD (i - 1) 0) else l.getD j 0 := fun j => moved_getD hi
  by_cases h0 : i = 0
  · subst h0
    obtain ⟨m, hml', hmne⟩ := hne
    have hlast := (mayB_zero l).1 hm
    have hx0 := h5 0 (by omega)
    have hne0 : l.getD 0 0 ≠ (l.getD 0 0 + j) % kinds := by
      have := hmiss (l.length - 1) (by omega) ⟨m, by omega, hmne⟩
      rwa [← hlast] at this
    obtain ⟨j', rfl⟩ : ∃ j', j = j' + 1 := by
      cases j with
      | zero => exfalso; apply hne0; rw [show l.getD 0 0 + ((0 : Nat) : Int) = l.getD 0 0 by omega, Int.emod_eq_of_lt hx0.1 hx0.2]
      | succ j' => exact ⟨j', rfl⟩
    have hval : ((moved l kinds 0).getD 0 0 + (j' : Int)) % kinds = (l.getD 0 0 + ((j' + 1 : Nat) : Int)) % kinds := by
      rw [hx 0, if_pos rfl, if_pos rfl, Int.emod_add_emod]; congr 1; push_cast; omega
    have hW : W (mayB (moved l kinds 0)) l.length l.length ≤ W (mayB l) l.length l.length + (l.length - 1) := by
      refine W_more (fun k hk0 hk1 => ?_) _ (Nat.le_refl _)
      unfold mayB; rw [if_neg hk0, if_neg hk0, hx k, hx (k - 1), if_neg (by omega), if_neg (by omega)]
    have hmul : l.length * (j' + 1) = l.length * j' + l.length := Nat.mul_succ _ _
    refine ⟨by omega, j', fun q hq ⟨m', hm', hne'⟩ => ?_, by rw [hml]; omega⟩
    rw [hval]
    rw [hml] at hq
    have hq0 : q ≠ 0 := by
      intro e; subst e
      have : m' = 0 := by omega
      subst this; exact hne' rfl
    rw [hx q, if_neg (by omega)]
    by_cases hw : ∃ m, m ≤ q ∧ l.getD m 0 ≠ l.getD 0 0
    · exact hmiss q hq hw
    · have : l.getD q 0 = l.getD 0 0 := Classical.byContradiction fun hn => hw ⟨q, Nat.le_refl _, hn⟩
      rw [this]; exact hne0
  · have hmi := (mayB_pos h0).1 hm
    have hg0 : (moved l kinds i).getD 0 0 = l.getD 0 0 := by rw [hx 0, if_neg h0]
    have hW : W (mayB (moved l kinds i)) l.length l.length + 1 ≤ W (mayB l) l.length l.length := by
      refine W_less h0 hm ?_ (fun k hk0 hk hk1 => ?_) _ hi (Nat.le_refl _)
      · rw [mayB_pos' h0, hx i, hx (i - 1), if_pos rfl, if_neg h0, if_neg (by omega)]
      · unfold mayB; rw [if_neg hk0, if_neg hk0, hx k, hx (k - 1), if_neg (Ne.symm hk), if_neg (by omega)]
    refine ⟨by omega, j, fun q hq ⟨m', hm', hne'⟩ => ?_, by rw [hml]; omega⟩
    rw [hg0] at hne' ⊢
    rw [hml] at hq
    rw [hx m'] at hne'
    by_cases hqi : i = q
    · subst hqi
      rw [hx i, if_pos rfl, if_neg h0]
      refine hmiss (i - 1) (by omega) ?_
      by_cases hmi' : i = m'
      · subst hmi'; rw [if_pos rfl, if_neg h0] at hne'; exact ⟨i - 1, Nat.le_refl _, hne'⟩
      · rw [if_neg hmi'] at hne'; exact ⟨m', by omega, hne'⟩
    · rw [hx q, if_neg hqi]
      refine hmiss q hq ?_
      by_cases hmi' : i = m'
      · subst hmi'; rw [if_pos rfl, if_neg h0] at hne'; exact ⟨i - 1, by omega, hne'⟩
      · rw [if_neg hmi'] at hne'; exact ⟨m', hm', hne'⟩

theorem uniq_zero {l : List Int} (h : 0 < l.length) (heq : ∀ m, m < l.length → l.getD m 0 = l.getD 0 0) : Uniq l 0 :=
  ⟨h, (mayB_zero l).2 (heq _ (by omega)).symm, fun j hj hj0 => (mayB_pos' hj0).2 (by rw [heq j hj, heq (j - 1) (by omega)])⟩

theorem reach_pot {kinds : Int} {B : Nat} : ∀ {m : Nat} {a b : List Int}, stErr a kinds = 0 → Pot a kinds B → Reach kinds m a b → (m ≤ B ∧ Pot b kinds (B - m)) ∨ ∃ i, Uniq b i
  | 0, a, b, _, hp, hr => by cases hr; exact .inl ⟨Nat.zero_le _, hp⟩
  | m + 1, a, c, hg, hp, ⟨b, hr, i, hi, hm, hc⟩ => by
    have hgb := Reach.good hr hg
    subst hc
    rcases reach_pot hg hp hr with ⟨hmB, hpb⟩ | ⟨k, hu⟩
    · by_cases hne : ∃ q, q < b.length ∧ b.getD q 0 ≠ b.getD 0 0
      · have := pot_step hgb.1 hi hm hne hpb
        exact .inl ⟨by omega, by rw [show B - (m + 1) = B - m - 1 by omega]; exact this.2⟩
      · have hu := uniq_zero (l := b) (by omega) fun q hq => Classical.byContradiction fun hn => hne ⟨q, hq, hn⟩
        have : i = 0 := Classical.byContradiction fun hn => by rw [hu.2.2 i hi hn] at hm; cases hm
        subst this
        exact .inr ⟨_, uniq_step hgb.1 hu⟩
    · have : i = k := Classical.byContradiction fun hn => by rw [hu.2.2 i hi hn] at hm; cases hm
      subst this
      exact .inr ⟨_, uniq_step hgb.1 hu⟩

/-- By 200 moves just one may move. -/
theorem reach_uniq {kinds : Int} {a b : List Int} (hg : stErr a kinds = 0) (hr : Reach kinds 200 a b) : ∃ i, Uniq b i := by
  rcases reach_pot hg (pot_start hg) hr with ⟨h, _⟩ | h
  · omega
  · exact h

end Go.Proofs.YtghamcjcihiopaaDoor
