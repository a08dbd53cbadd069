/-
  The line over two wires that lose and double, plain: what happens, what stays true, and that all comes in the end.
  Conditions: none beyond those of each lemma.
-/
import Derived.Test.YtgpjjbfmckcjgaaDoorSum
namespace Go.Proofs.YtgpjjbfmckcjgaaDoor

/-- forth: bits and values; back: bits. -/
structure BNet where
  vals : List Int
  sent : Nat
  got : List Int
  forth : List (Nat × Int)
  back : List Nat

def BNet.init (l : List Int) : BNet := ⟨l, 0, [], [], []⟩
def BNet.err (s : BNet) (k : Int) : Int :=
  if k < 0 ∨ 6 < k then 1 else
  if k = 0 then (if s.sent = s.vals.length then 5 else if 8 ≤ s.forth.length then 4 else 0) else
  if k = 1 then (if s.forth.length = 0 then 5 else if 8 ≤ s.back.length then 4 else 0) else
  if k = 2 then (if s.forth.length = 0 then 5 else 0) else
  if k = 3 then (if s.forth.length = 0 then 5 else if 8 ≤ s.forth.length then 4 else 0) else
  if k = 4 then (if s.back.length = 0 then 5 else 0) else
  if k = 5 then (if s.back.length = 0 then 5 else 0) else
  (if s.back.length = 0 then 5 else if 8 ≤ s.back.length then 4 else 0)

def BNet.fbit (s : BNet) : Nat := (s.forth.getD 0 (0, 0)).1
def BNet.fval (s : BNet) : Int := (s.forth.getD 0 (0, 0)).2
def BNet.bbit (s : BNet) : Nat := s.back.getD 0 0

def BNet.pass (s : BNet) (k : Int) : BNet :=
  if k = 0 then { s with forth := s.forth ++ [(s.sent % 2, s.vals.getD s.sent 0)] } else
  if k = 1 then { s with got := if s.fbit = s.got.length % 2 then s.got ++ [s.fval] else s.got, back := s.back ++ [s.fbit], forth := s.forth.drop 1 } else
  if k = 2 then { s with forth := s.forth.drop 1 } else
  if k = 3 then { s with forth := (s.fbit, s.fval) :: s.forth } else
  if k = 4 then { s with sent := if s.bbit = s.sent % 2 ∧ s.sent < s.vals.length then s.sent + 1 else s.sent, back := s.back.drop 1 } else
  if k = 5 then { s with back := s.back.drop 1 } else
  { s with back := s.bbit :: s.back }
def BNet.act (s : BNet) (k : Int) : BNet := if s.err k = 0 then s.pass k else s

structure BInv (s : BNet) : Prop where
  v20 : s.vals.length ≤ 20
  rng : ∀ x ∈ s.vals, 0 ≤ x ∧ x ≤ 1000
  gle : s.got.length ≤ s.vals.length
  gpre : s.got = s.vals.take s.got.length
  f8 : s.forth.length ≤ 8
  b8 : s.back.length ≤ 8
  fb : ∀ f ∈ s.forth, f.1 < 2 ∧ 0 ≤ f.2 ∧ f.2 ≤ 1000
  bb : ∀ b ∈ s.back, b < 2
  st : (s.got.length = s.sent ∧ s.forth.Pairwise (fun x y => x.1 = s.sent % 2 → y.1 = s.sent % 2) ∧ (∀ f ∈ s.forth, f.1 = s.sent % 2 → f.2 = s.vals.getD s.sent 0 ∧ s.sent < s.vals.length) ∧ ∀ b ∈ s.back, b ≠ s.sent % 2) ∨
    (s.got.length = s.sent + 1 ∧ (∀ f ∈ s.forth, f.1 = s.sent % 2) ∧ s.back.Pairwise (fun x y => x = s.sent % 2 → y = s.sent % 2))

theorem BInv.sle {s : BNet} (h : BInv s) : s.sent ≤ s.vals.length := by
  have := h.gle
  rcases h.st with h | h <;> omega
theorem BInv.sle20 {s : BNet} (h : BInv s) : s.sent ≤ 20 := by
  have := h.sle; have := h.v20; omega

theorem BInv.start {l : List Int} (h20 : l.length ≤ 20) (hr : ∀ x ∈ l, 0 ≤ x ∧ x ≤ 1000) : BInv (BNet.init l) where
  v20 := h20
  rng := hr
  gle := Nat.zero_le _
  gpre := by simp [BNet.init]
  f8 := Nat.zero_le _
  b8 := Nat.zero_le _
  fb := fun f hf => by cases hf
  bb := fun f hf => by cases hf
  st := .inl ⟨rfl, List.Pairwise.nil, (by intro f hf; exact absurd hf (by simp [BNet.init])), (by intro f hf; exact absurd hf (by simp [BNet.init]))⟩

/-! What each does. -/
theorem BInv.p0 {s : BNet} (h : BInv s) (hs : s.sent < s.vals.length) (hf : s.forth.length < 8) : BInv { s with forth := s.forth ++ [(s.sent % 2, s.vals.getD s.sent 0)] } where
  v20 := h.v20
  rng := h.rng
  gle := h.gle
  gpre := h.gpre
  f8 := by simp; omega
  b8 := h.b8
  fb := fun f hf => by
    simp only [List.mem_append, List.mem_singleton] at hf
    rcases hf with hf | rfl
    · exact h.fb f hf
    · refine ⟨Nat.mod_lt _ (by omega), ?_⟩
      have e : s.vals.getD s.sent 0 = s.vals[s.sent] := by simp [List.getD, hs]
      simp only [e]
      exact h.rng _ (List.getElem_mem hs)
  bb := h.bb
  st := by
    rcases h.st with ⟨h1, h2, h3, h4⟩ | ⟨h1, h2, h3⟩
    · refine .inl ⟨h1, ?_, fun f hf he => ?_, h4⟩
      · rw [List.pairwise_append]
        refine ⟨h2, List.pairwise_singleton _ _, fun a _ b hb _ => ?_⟩
        rw [List.mem_singleton] at hb; subst hb; rfl
      · simp only [List.mem_append, List.mem_singleton] at hf
        rcases hf with hf | rfl
        · exact h3 f hf he
        · exact ⟨rfl, hs⟩
    · refine .inr ⟨h1, fun f hf => ?_, h3⟩
      simp only [List.mem_append, List.mem_singleton] at hf
      rcases hf with hf | rfl
      · exact h2 f hf
      · rfl

theorem BInv.p1 {s : BNet} (h : BInv s) {f : Nat × Int} {r : List (Nat × Int)} (hf : s.forth = f :: r) (hb : s.back.length < 8) :
    BInv { s with got := if f.1 = s.got.length % 2 then s.got ++ [f.2] else s.got, back := s.back ++ [f.1], forth := r } := by
  have hfb := h.fb f (by rw [hf]; simp)
  have hfr : ∀ x ∈ r, x ∈ s.forth := fun x hx => by rw [hf]; exact List.mem_cons_of_mem _ hx
  have f8 : r.length ≤ 8 := by have := h.f8; rw [hf] at this; simp at this; omega
  have b8 : (s.back ++ [f.1]).length ≤ 8 := by simp; omega
  have bb : ∀ b ∈ s.back ++ [f.1], b < 2 := fun b hb => by
    simp only [List.mem_append, List.mem_singleton] at hb
    rcases hb with hb | rfl
    · exact h.bb b hb
    · exact hfb.1
  rcases h.st with ⟨h1, h2, h3, h4⟩ | ⟨h1, h2, h3⟩
  · by_cases e : f.1 = s.got.length % 2
    · -- got now
      have e' : f.1 = s.sent % 2 := by rw [e, h1]
      obtain ⟨hv, hlt⟩ := h3 f (by rw [hf]; simp) e'
      rw [if_pos e]
      rw [hf, List.pairwise_cons] at h2
      have hgl : (s.got ++ [f.2]).length = s.sent + 1 := by simp [h1]
      refine ⟨h.v20, h.rng, ?_, ?_, f8, b8, fun x hx => h.fb x (hfr x hx), bb, .inr ⟨hgl, fun x hx => h2.1 x hx e', ?_⟩⟩
      · show (s.got ++ [f.2]).length ≤ _
        rw [hgl]; exact hlt
      · show s.got ++ [f.2] = s.vals.take (s.got ++ [f.2]).length
        rw [hgl, List.take_succ_eq_append_getElem hlt, hv]
        have e2 : s.vals.getD s.sent 0 = s.vals[s.sent] := by simp [List.getD, hlt]
        rw [e2]
        have := h.gpre
        rw [h1] at this
        rw [← this]
      · rw [List.pairwise_append]
        refine ⟨?_, List.pairwise_singleton _ _, fun a ha b hb' hab => ?_⟩
        · exact List.Pairwise.imp_of_mem (R := fun _ _ => True) (fun ha _ _ hx => absurd hx (h4 _ ha)) (by
            rw [List.pairwise_iff_forall_sublist]; intros; trivial)
        · exact absurd hab (h4 _ ha)
    · have e' : f.1 ≠ s.sent % 2 := by rw [← h1]; exact e
      rw [if_neg e]
      rw [hf, List.pairwise_cons] at h2
      refine ⟨h.v20, h.rng, h.gle, h.gpre, f8, b8, fun x hx => h.fb x (hfr x hx), bb, .inl ⟨h1, h2.2, fun x hx => h3 x (hfr x hx), fun b hb' => ?_⟩⟩
      simp only [List.mem_append, List.mem_singleton] at hb'
      rcases hb' with hb' | rfl
      · exact h4 b hb'
      · exact e'
  · have ef := h2 f (by rw [hf]; simp)
    have e : ¬ f.1 = s.got.length % 2 := by rw [ef, h1]; omega
    rw [if_neg e]
    refine ⟨h.v20, h.rng, h.gle, h.gpre, f8, b8, fun x hx => h.fb x (hfr x hx), bb, .inr ⟨h1, fun x hx => h2 x (hfr x hx), ?_⟩⟩
    rw [List.pairwise_append]
    refine ⟨h3, List.pairwise_singleton _ _, fun a _ b hb' _ => ?_⟩
    rw [List.mem_singleton] at hb'
    subst hb'; exact ef

theorem BInv.p2 {s : BNet} (h : BInv s) {f : Nat × Int} {r : List (Nat × Int)} (hf : s.forth = f :: r) : BInv { s with forth := r } := by
  have hfr : ∀ x ∈ r, x ∈ s.forth := fun x hx => by rw [hf]; exact List.mem_cons_of_mem _ hx
  have f8 : r.length ≤ 8 := by have := h.f8; rw [hf] at this; simp at this; omega
  refine ⟨h.v20, h.rng, h.gle, h.gpre, f8, h.b8, fun x hx => h.fb x (hfr x hx), h.bb, ?_⟩
  rcases h.st with ⟨h1, h2, h3, h4⟩ | ⟨h1, h2, h3⟩
  · rw [hf, List.pairwise_cons] at h2
    exact .inl ⟨h1, h2.2, fun x hx => h3 x (hfr x hx), h4⟩
  · exact .inr ⟨h1, fun x hx => h2 x (hfr x hx), h3⟩

theorem BInv.p3 {s : BNet} (h : BInv s) {f : Nat × Int} {r : List (Nat × Int)} (hf : s.forth = f :: r) (h8 : s.forth.length < 8) : BInv { s with forth := f :: f :: r } := by
  have hfr : ∀ x ∈ f :: f :: r, x ∈ s.forth := fun x hx => by
    rw [hf]
    rcases List.mem_cons.1 hx with rfl | hx
    · simp
    · exact hx
  have f8 : (f :: f :: r).length ≤ 8 := by rw [hf] at h8; simp at h8 ⊢; omega
  refine ⟨h.v20, h.rng, h.gle, h.gpre, f8, h.b8, fun x hx => h.fb x (hfr x hx), h.bb, ?_⟩
  rcases h.st with ⟨h1, h2, h3, h4⟩ | ⟨h1, h2, h3⟩
  · refine .inl ⟨h1, ?_, fun x hx => h3 x (hfr x hx), h4⟩
    rw [hf] at h2
    rw [List.pairwise_cons]
    refine ⟨fun y hy => ?_, h2⟩
    rcases List.mem_cons.1 hy with rfl | hy
    · exact fun h => h
    · exact (List.pairwise_cons.1 h2).1 y hy
  · exact .inr ⟨h1, fun x hx => h2 x (hfr x hx), h3⟩

theorem BInv.p4 {s : BNet} (h : BInv s) {b : Nat} {r : List Nat} (hb : s.back = b :: r) : BInv { s with sent := if b = s.sent % 2 ∧ s.sent < s.vals.length then s.sent + 1 else s.sent, back := r } := by
  have hbr : ∀ x ∈ r, x ∈ s.back := fun x hx => by rw [hb]; exact List.mem_cons_of_mem _ hx
  have b8 : r.length ≤ 8 := by have := h.b8; rw [hb] at this; simp at this; omega
  refine ⟨h.v20, h.rng, h.gle, h.gpre, h.f8, b8, h.fb, fun x hx => h.bb x (hbr x hx), ?_⟩
  rcases h.st with ⟨h1, h2, h3, h4⟩ | ⟨h1, h2, h3⟩
  · have e : ¬ (b = s.sent % 2 ∧ s.sent < s.vals.length) := fun hh => h4 b (by rw [hb]; simp) hh.1
    simp only [if_neg e]
    exact .inl ⟨h1, h2, h3, fun x hx => h4 x (hbr x hx)⟩
  · rw [hb, List.pairwise_cons] at h3
    by_cases e : b = s.sent % 2
    · have hlt : s.sent < s.vals.length := by have := h.gle; omega
      simp only [if_pos (And.intro e hlt)]
      refine .inl ⟨h1, ?_, fun x hx he => ?_, fun x hx => ?_⟩
      · refine List.Pairwise.imp_of_mem (R := fun _ _ => True) (fun ha _ _ hx => ?_) (by
          rw [List.pairwise_iff_forall_sublist]; intros; trivial)
        have := h2 _ ha; omega
      · have := h2 _ hx; omega
      · have := h3.1 x hx e; omega
    · simp only [if_neg (fun hh : b = s.sent % 2 ∧ s.sent < s.vals.length => e hh.1)]
      exact .inr ⟨h1, h2, h3.2⟩

theorem BInv.p5 {s : BNet} (h : BInv s) {b : Nat} {r : List Nat} (hb : s.back = b :: r) : BInv { s with back := r } := by
  have hbr : ∀ x ∈ r, x ∈ s.back := fun x hx => by rw [hb]; exact List.mem_cons_of_mem _ hx
  have b8 : r.length ≤ 8 := by have := h.b8; rw [hb] at this; simp at this; omega
  refine ⟨h.v20, h.rng, h.gle, h.gpre, h.f8, b8, h.fb, fun x hx => h.bb x (hbr x hx), ?_⟩
  rcases h.st with ⟨h1, h2, h3, h4⟩ | ⟨h1, h2, h3⟩
  · exact .inl ⟨h1, h2, h3, fun x hx => h4 x (hbr x hx)⟩
  · rw [hb, List.pairwise_cons] at h3
    exact .inr ⟨h1, h2, h3.2⟩

theorem BInv.p6 {s : BNet} (h : BInv s) {b : Nat} {r : List Nat} (hb : s.back = b :: r) (h8 : s.back.length < 8) : BInv { s with back := b :: b :: r } := by
  have hbr : ∀ x ∈ b :: b :: r, x ∈ s.back := fun x hx => by
    rw [hb]
    rcases List.mem_cons.1 hx with rfl | hx
    · simp
    · exact hx
  have b8 : (b :: b :: r).length ≤ 8 := by rw [hb] at h8; simp at h8 ⊢; omega
  refine ⟨h.v20, h.rng, h.gle, h.gpre, h.f8, b8, h.fb, fun x hx => h.bb x (hbr x hx), ?_⟩
  rcases h.st with ⟨h1, h2, h3, h4⟩ | ⟨h1, h2, h3⟩
  · exact .inl ⟨h1, h2, h3, fun x hx => h4 x (hbr x hx)⟩
  · refine .inr ⟨h1, h2, ?_⟩
    rw [hb] at h3
    show (b :: b :: r).Pairwise _
    rw [List.pairwise_cons]
    refine ⟨fun y hy => ?_, h3⟩
    rcases List.mem_cons.1 hy with rfl | hy
    · exact fun h => h
    · exact (List.pairwise_cons.1 h3).1 y hy

theorem cons_of_len {α : Type} {l : List α} (h : ¬ l.length = 0) (d : α) : l = l.getD 0 d :: l.drop 1 := by
  cases l with
  | nil => exact absurd rfl h
  | cons x l => rfl

theorem BInv.act {s : BNet} (h : BInv s) (k : Int) : BInv (s.act k) := by
  unfold BNet.act
  by_cases hz : s.err k = 0
  · rw [if_pos hz]
    unfold BNet.err at hz
    unfold BNet.pass
    by_cases hk : k < 0 ∨ 6 < k
    · rw [if_pos hk] at hz; omega
    rw [if_neg hk] at hz
    by_cases k0 : k = 0
    · rw [if_pos k0] at hz ⊢
      by_cases e1 : s.sent = s.vals.length
      · rw [if_pos e1] at hz; omega
      rw [if_neg e1] at hz
      by_cases e2 : 8 ≤ s.forth.length
      · rw [if_pos e2] at hz; omega
      exact h.p0 (by have := h.sle; omega) (by omega)
    rw [if_neg k0] at hz ⊢
    by_cases k1 : k = 1
    · rw [if_pos k1] at hz ⊢
      by_cases e1 : s.forth.length = 0
      · rw [if_pos e1] at hz; omega
      rw [if_neg e1] at hz
      by_cases e2 : 8 ≤ s.back.length
      · rw [if_pos e2] at hz; omega
      exact h.p1 (cons_of_len e1 (0, 0)) (by omega)
    rw [if_neg k1] at hz ⊢
    by_cases k2 : k = 2
    · rw [if_pos k2] at hz ⊢
      by_cases e1 : s.forth.length = 0
      · rw [if_pos e1] at hz; omega
      exact h.p2 (cons_of_len e1 (0, 0))
    rw [if_neg k2] at hz ⊢
    by_cases k3 : k = 3
    · rw [if_pos k3] at hz ⊢
      by_cases e1 : s.forth.length = 0
      · rw [if_pos e1] at hz; omega
      rw [if_neg e1] at hz
      by_cases e2 : 8 ≤ s.forth.length
      · rw [if_pos e2] at hz; omega
      have := h.p3 (cons_of_len e1 (0, 0)) (by omega)
      rw [← cons_of_len e1 (0, 0)] at this
      exact this
    rw [if_neg k3] at hz ⊢
    by_cases k4 : k = 4
    · rw [if_pos k4] at hz ⊢
      by_cases e1 : s.back.length = 0
      · rw [if_pos e1] at hz; omega
      exact h.p4 (cons_of_len e1 0)
    rw [if_neg k4] at hz ⊢
    by_cases k5 : k = 5
    · rw [if_pos k5] at hz ⊢
      by_cases e1 : s.back.length = 0
      · rw [if_pos e1] at hz; omega
      exact h.p5 (cons_of_len e1 0)
    rw [if_neg k5] at hz ⊢
    by_cases e1 : s.back.length = 0
    · rw [if_pos e1] at hz; omega
    rw [if_neg e1] at hz
    by_cases e2 : 8 ≤ s.back.length
    · rw [if_pos e2] at hz; omega
    have := h.p6 (cons_of_len e1 0) (by omega)
    rw [← cons_of_len e1 0] at this
    exact this
  · rw [if_neg hz]; exact h

theorem BNet.act_vals (s : BNet) (k : Int) : (s.act k).vals = s.vals := by
  unfold BNet.act BNet.pass
  (repeat' split) <;> rfl

theorem BNet.act_sent (s : BNet) (k : Int) : s.sent ≤ (s.act k).sent := by
  unfold BNet.act
  split
  · unfold BNet.pass
    (repeat' split) <;> simp
  · exact Nat.le_refl _

/-! ### Rounds -/
theorem err1 (s : BNet) : s.err 1 = if s.forth.length = 0 then 5 else if 8 ≤ s.back.length then 4 else 0 := by
  unfold BNet.err; rw [if_neg (by omega), if_neg (by omega), if_pos rfl]
theorem err4 (s : BNet) : s.err 4 = if s.back.length = 0 then 5 else 0 := by
  unfold BNet.err; rw [if_neg (by omega), if_neg (by omega), if_neg (by omega), if_neg (by omega), if_neg (by omega), if_pos rfl]
theorem err0 (s : BNet) : s.err 0 = if s.sent = s.vals.length then 5 else if 8 ≤ s.forth.length then 4 else 0 := by
  unfold BNet.err; rw [if_neg (by omega), if_pos rfl]
theorem act0 {s : BNet} (hs : s.sent < s.vals.length) : (s.act 0).back = s.back ∧ (s.act 0).sent = s.sent ∧ ((8 ≤ s.forth.length ∧ (s.act 0).forth = s.forth) ∨ (s.forth.length < 8 ∧ (s.act 0).forth = s.forth ++ [(s.sent % 2, s.vals.getD s.sent 0)])) := by
  by_cases h : 8 ≤ s.forth.length
  · have e : s.act 0 = s := by
      unfold BNet.act
      rw [err0, if_neg (show ¬ s.sent = s.vals.length by omega), if_pos h, if_neg (by omega)]
    rw [e]; exact ⟨rfl, rfl, .inl ⟨h, rfl⟩⟩
  · have e : s.act 0 = { s with forth := s.forth ++ [(s.sent % 2, s.vals.getD s.sent 0)] } := by
      unfold BNet.act
      rw [err0, if_neg (show ¬ s.sent = s.vals.length by omega), if_neg h, if_pos rfl]
      rfl
    rw [e]; exact ⟨rfl, rfl, .inr ⟨by omega, rfl⟩⟩

theorem act1 {s : BNet} (hf : 0 < s.forth.length) (hb : s.back.length < 8) : (s.act 1).sent = s.sent ∧ (s.act 1).back = s.back ++ [s.fbit] ∧ (s.act 1).forth = s.forth.drop 1 := by
  have e : s.act 1 = { s with got := if s.fbit = s.got.length % 2 then s.got ++ [s.fval] else s.got, back := s.back ++ [s.fbit], forth := s.forth.drop 1 } := by
    unfold BNet.act
    rw [err1, if_neg (show ¬ s.forth.length = 0 by omega), if_neg (show ¬ 8 ≤ s.back.length by omega), if_pos rfl]
    rfl
  rw [e]; exact ⟨rfl, rfl, rfl⟩
theorem act1_no {s : BNet} (hf : s.forth.length = 0) : s.act 1 = s := by
  unfold BNet.act
  rw [err1, if_pos hf, if_neg (by omega)]

theorem act4 {s : BNet} (hb : 0 < s.back.length) : (s.act 4).sent = (if s.bbit = s.sent % 2 ∧ s.sent < s.vals.length then s.sent + 1 else s.sent) ∧ (s.act 4).back = s.back.drop 1 ∧ (s.act 4).forth = s.forth := by
  have e : s.act 4 = { s with sent := if s.bbit = s.sent % 2 ∧ s.sent < s.vals.length then s.sent + 1 else s.sent, back := s.back.drop 1 } := by
    unfold BNet.act
    rw [err4, if_neg (show ¬ s.back.length = 0 by omega), if_pos rfl]
    rfl
  rw [e]; exact ⟨rfl, rfl, rfl⟩
theorem act4_no {s : BNet} (hb : s.back.length = 0) : s.act 4 = s := by
  unfold BNet.act
  rw [err4, if_pos hb, if_neg (by omega)]
theorem act4_len (s : BNet) : (s.act 4).back.length = s.back.length - 1 ∧ (s.act 4).forth = s.forth := by
  by_cases h : s.back.length = 0
  · rw [act4_no h]; exact ⟨by omega, rfl⟩
  · obtain ⟨_, h2, h3⟩ := act4 (s := s) (by omega)
    rw [h2, h3]; exact ⟨by simp, rfl⟩

def BNet.phi (s : BNet) : Nat := s.forth.length + s.back.length + (s.vals.length - s.sent)
def BNet.round (s : BNet) : BNet := (((((s.act 0).act 4).act 1).act 4).act 1).act 4

theorem BInv.round {s : BNet} (h : BInv s) : BInv s.round := (((((h.act 0).act 4).act 1).act 4).act 1).act 4
theorem BNet.round_vals (s : BNet) : s.round.vals = s.vals := by
  unfold BNet.round; simp only [BNet.act_vals]

theorem BInv.less {s : BNet} (h : BInv s) (hn : s.sent < s.vals.length) : s.round.phi < s.phi := by
  have hb8 := h.b8
  have hf8 := h.f8
  obtain ⟨b1, s1, f1⟩ := act0 hn
  have v1 := s.act_vals 0
  obtain ⟨b2, f2⟩ := act4_len (s.act 0)
  have s2 := (s.act 0).act_sent 4
  have v2 := (s.act 0).act_vals 4
  have fl1' : (8 ≤ s.forth.length ∧ (s.act 0).forth.length = s.forth.length) ∨ (s.act 0).forth.length = s.forth.length + 1 := by
    rcases f1 with ⟨h1, e⟩ | ⟨h1, e⟩
    · left; rw [e]; exact ⟨h1, rfl⟩
    · right; rw [e, List.length_append]; rfl
  have fl1 : 0 < (s.act 0).forth.length := by omega
  generalize ha : (s.act 0).act 4 = a at *
  rw [b1] at b2
  have hbl : a.back.length < 8 := by omega
  obtain ⟨s3, b3, f3⟩ := act1 (s := a) (by rw [f2]; exact fl1) hbl
  have v3 := a.act_vals 1
  obtain ⟨b4, f4⟩ := act4_len (a.act 1)
  have s4 := (a.act 1).act_sent 4
  have v4 := (a.act 1).act_vals 4
  have bl3 : (a.act 1).back.length = a.back.length + 1 := by rw [b3]; simp
  have fl3 : (a.act 1).forth.length = a.forth.length - 1 := by rw [f3]; simp
  generalize hb : (a.act 1).act 4 = b at *
  have bl4 : b.back.length < 8 := by omega
  have hr : s.round = (b.act 1).act 4 := by unfold BNet.round; rw [ha, hb]
  obtain ⟨b6, f6⟩ := act4_len (b.act 1)
  have s6 := (b.act 1).act_sent 4
  have v6 := (b.act 1).act_vals 4
  have v5 := b.act_vals 1
  have s5 := b.act_sent 1
  rw [hr]
  unfold BNet.phi
  have hle := (h.round).sle
  rw [hr] at hle
  rw [v6, v5, v4, v3, v2, v1] at hle ⊢
  rw [f6, b6]
  have flb : b.forth.length = (s.act 0).forth.length - 1 := by rw [f4, fl3, f2]
  by_cases hf0 : s.forth.length = 0
  · have hf1 : (s.act 0).forth.length = 1 := by omega
    rw [act1_no (show b.forth.length = 0 by omega)]
    by_cases hr0 : s.back.length = 0
    · -- what was sent is heard of at once
      have hsb : b.sent = s.sent + 1 := by
        have ea : a = s.act 0 := by rw [← ha]; exact act4_no (by rw [b1]; exact hr0)
        rcases f1 with ⟨h1, e⟩ | ⟨h1, e⟩
        · omega
        · have e1 : a.fbit = s.sent % 2 := by
            unfold BNet.fbit
            rw [ea, e, List.eq_nil_of_length_eq_zero hf0]; rfl
          have e2 : (a.act 1).bbit = s.sent % 2 := by
            unfold BNet.bbit
            rw [b3, List.eq_nil_of_length_eq_zero (show a.back.length = 0 by omega), e1]; rfl
          have e3 : (a.act 1).sent = s.sent := by rw [s3, ea, s1]
          obtain ⟨k1, _, _⟩ := act4 (s := a.act 1) (by omega)
          rw [hb, e2, e3, v3, v2, v1, if_pos ⟨rfl, hn⟩] at k1
          exact k1
      have := b.act_sent 4
      rw [act1_no (show b.forth.length = 0 by omega)] at s6 hle
      omega
    · rw [act1_no (show b.forth.length = 0 by omega)] at s6 hle
      omega
  · obtain ⟨k1, k2, k3⟩ := act1 (s := b) (by omega) bl4
    rw [k2, k3]
    simp only [List.length_append, List.length_drop, List.length_cons, List.length_nil]
    omega

/-- Behind so many rounds. -/
def RndTo (k : Nat) (s : BNet) : Prop := s.sent = s.vals.length ∨ s.phi + k ≤ 36

theorem rnd_start {s : BNet} (h : BInv s) : RndTo 0 s := by
  right
  have := h.f8; have := h.b8; have := h.v20
  unfold BNet.phi; omega

theorem rnd_next {s : BNet} (h : BInv s) {k : Nat} (hr : RndTo k s) : RndTo (k + 1) s.round := by
  by_cases hn : s.sent < s.vals.length
  · have := h.less hn
    rcases hr with hr | hr
    · omega
    · right; omega
  · left
    have h1 := h.round.sle
    have h2 : s.sent ≤ s.round.sent := by
      unfold BNet.round
      exact Nat.le_trans (BNet.act_sent _ _) (Nat.le_trans (BNet.act_sent _ _) (Nat.le_trans (BNet.act_sent _ _) (Nat.le_trans (BNet.act_sent _ _) (Nat.le_trans (BNet.act_sent _ _) (BNet.act_sent _ _)))))
    have h3 := h.sle
    rw [s.round_vals] at h1 ⊢
    omega

theorem rnd_end {s : BNet} (h : BInv s) {k : Nat} (hk : 36 < k) (hr : RndTo k s) : s.got = s.vals ∧ s.sent = s.vals.length := by
  have e : s.sent = s.vals.length := by
    rcases hr with hr | hr
    · exact hr
    · omega
  refine ⟨?_, e⟩
  have h1 := h.gle
  rcases h.st with h2 | h2
  · rw [h.gpre, h2.1, e]; exact List.take_length ..
  · omega

end Go.Proofs.YtgpjjbfmckcjgaaDoor
