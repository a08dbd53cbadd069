/-
  The net of work and thanks: one step of a script.
  Conditions: a net as New made it, behind any deeds.
-/
import Derived.Test.YtbckjmbhipofaaaCaG
namespace Go.Proofs.Ytbckjmbhipofaaa
open Go Go.RowKit

set_option maxHeartbeats 4000000 in
set_option maxRecDepth 100000 in
theorem acts_any (S : Nat → Prop) (w : World) (t g : Nat) (s : CNet) (h : CIn S w t g s) (hs : Sane s) (v : Value) (l : List Int) (hl : Rd S w v l) (hlb : l.length ≤ 9223372036854775807) :
    Calls Try.prog 8 #[.pointer (some ⟨t, 0, none⟩), v] w (DonePost S w t g (s.act l)) := by
  obtain ⟨n, hN⟩ : ∃ n, Hid (l.length = n) := ⟨_, Lib.hid rfl⟩
  by_cases h2 : n = 2
  · subst h2
    obtain ⟨b, off, c, rfl, _, hc⟩ := hl.form (by rw [hN.out]; omega)
    rw [hN.out] at hc ⊢
    have d0 := hc 0 (by omega)
    have d1 := hc 1 (by omega)
    obtain ⟨x, hX⟩ : ∃ x, Hid (l.getD 0 0 = x) := ⟨_, Lib.hid rfl⟩
    obtain ⟨y, hY⟩ : ∃ y, Hid (l.getD 1 0 = y) := ⟨_, Lib.hid rfl⟩
    rw [hX.out] at d0
    rw [hY.out] at d1
    rw [Nat.add_zero] at d0
    have hG := give_any S w.drew t g s (h.keep ((Chg.refl NoF w).drew)) hs x y
    have HG := Lib.hid hG
    have hact : Hid (s.act l = s.give x y) := Lib.hid (by unfold CNet.act; rw [if_pos hN.out, hX.out, hY.out])
    clear hG h hs hl hlb hc
    go_enter Try.func8, Try.ntmps8
    go_wp2_with fail
    refine wp_region_plan (Chg NoF w) 7 [(0,true),(1,true),(2,true),(3,true),(4,true),(5,true),(6,true),(7,false)] mixed (by kernel_rfl) (Chg.refl _ _).drew ?_
    simp only [planOps, List.map_cons, List.map_nil, List.getElem?_cons_zero, List.getElem?_cons_succ, Option.getD_some]
    generalize List.toArray _ = ops
    iterate 7 (refine wpPlan_quiet (v := ?_) rfl (fun _ _ _ h => h) (by intro w1 hS; have s1 := hS.cell_some d0 (fun h => h); have s2 := hS.cell_some d1 (fun h => h); clear hS; go_simp; with_reducible rfl) ?_; (simp only [Act.put, List.setIfInBounds_toArray, List.set_cons_zero, List.set_cons_succ]))
    refine wpPlan_loud rfl (fun K hK => ?_)
    go_simp
    refine HG.out.mono ?_
    rintro e w1 ⟨rfl, hin, hcc⟩
    refine hK _ _ (fun h => absurd rfl h) ?_
    clear hK K
    refine wpPlan_nil ?_
    go_wp2
    go_end0
    exact ⟨rfl, by rw [hact.out]; exact hin, ((Chg.refl _ w).drew).trans hcc⟩
  by_cases h1 : n = 1
  · subst h1
    obtain ⟨b, off, c, rfl, _, hc⟩ := hl.form (by rw [hN.out]; omega)
    rw [hN.out] at hc ⊢
    have d0 := hc 0 (by omega)
    obtain ⟨x, hX⟩ : ∃ x, Hid (l.getD 0 0 = x) := ⟨_, Lib.hid rfl⟩
    rw [hX.out] at d0
    rw [Nat.add_zero] at d0
    have HG := Lib.hid (stop_any S w t g s h hs x)
    have hact : Hid (s.act l = s.stop x) := Lib.hid (by unfold CNet.act; rw [if_neg (by rw [hN.out]; omega), if_pos hN.out, hX.out])
    clear h hs hl hlb hc
    go_enter Try.func8, Try.ntmps8
    go_wp2_with fail
    refine HG.out.mono ?_
    rintro e w1 ⟨rfl, hin, hcc⟩
    go_wp2
    go_end0
    exact ⟨rfl, by rw [hact.out]; exact hin, hcc⟩
  by_cases h3 : n = 3
  · subst h3
    obtain ⟨b, off, c, rfl, _, hc⟩ := hl.form (by rw [hN.out]; omega)
    rw [hN.out] at hc ⊢
    have d0 := hc 0 (by omega)
    have d1 := hc 1 (by omega)
    obtain ⟨x, hX⟩ : ∃ x, Hid (l.getD 0 0 = x) := ⟨_, Lib.hid rfl⟩
    obtain ⟨y, hY⟩ : ∃ y, Hid (l.getD 1 0 = y) := ⟨_, Lib.hid rfl⟩
    rw [hX.out] at d0
    rw [hY.out] at d1
    rw [Nat.add_zero] at d0
    have HG := Lib.hid (step_any S w.drew t g s (h.keep ((Chg.refl NoF w).drew)) hs x y)
    have hact : Hid (s.act l = s.step x y) := Lib.hid (by unfold CNet.act; rw [if_neg (by rw [hN.out]; omega), if_neg (by rw [hN.out]; omega), if_pos hN.out, hX.out, hY.out])
    clear h hs hl hlb hc
    go_enter Try.func8, Try.ntmps8
    go_wp2_with fail
    refine wp_region_plan (Chg NoF w) 7 [(0,true),(1,true),(2,true),(3,true),(4,true),(5,true),(6,true),(7,false)] mixed (by kernel_rfl) (Chg.refl _ _).drew ?_
    simp only [planOps, List.map_cons, List.map_nil, List.getElem?_cons_zero, List.getElem?_cons_succ, Option.getD_some]
    generalize List.toArray _ = ops
    iterate 7 (refine wpPlan_quiet (v := ?_) rfl (fun _ _ _ h => h) (by intro w1 hS; have s1 := hS.cell_some d0 (fun h => h); have s2 := hS.cell_some d1 (fun h => h); clear hS; go_simp; with_reducible rfl) ?_; (simp only [Act.put, List.setIfInBounds_toArray, List.set_cons_zero, List.set_cons_succ]))
    refine wpPlan_loud rfl (fun K hK => ?_)
    go_simp
    refine HG.out.mono ?_
    rintro e w1 ⟨rfl, hin, hcc⟩
    refine hK _ _ (fun h => absurd rfl h) ?_
    clear hK K
    refine wpPlan_nil ?_
    go_wp2
    go_end0
    exact ⟨rfl, by rw [hact.out]; exact hin, ((Chg.refl _ w).drew).trans hcc⟩
  obtain ⟨a, c, rfl⟩ := hl.val
  have hact : Hid (s.act l = s) := Lib.hid (by unfold CNet.act; rw [if_neg (by rw [hN.out]; exact h2), if_neg (by rw [hN.out]; exact h1), if_neg (by rw [hN.out]; exact h3)])
  have b1 : ((n : Int) == 1) = false := by rw [beq_eq_false_iff_ne]; omega
  have b2 : ((n : Int) == 2) = false := by rw [beq_eq_false_iff_ne]; omega
  have b3 : ((n : Int) == 3) = false := by rw [beq_eq_false_iff_ne]; omega
  rw [hN.out] at hlb ⊢
  have HH := Lib.hid h
  clear h hs hl h1 h2 h3
  go_enter Try.func8, Try.ntmps8
  go_wp2
  go_end0
  exact ⟨rfl, by rw [hact.out]; exact HH.out, Chg.refl _ _⟩

theorem CRel.act {w wr wr' : World} {t g n : Nat} {s : CNet} (h : CRel w wr t g n s) (l : List Int) (hin : CIn (fun b => b < w.heap.size) wr' t g (s.act l)) (hc : Chg (NewB w) wr wr') : CRel w wr' t g n (s.act l) := by
  unfold CNet.act at hin ⊢
  split
  · rename_i e; rw [if_pos e] at hin; exact h.give _ _ hin hc
  rename_i e
  rw [if_neg e] at hin
  split
  · rename_i e; rw [if_pos e] at hin; exact h.stop _ hin hc
  rename_i e
  rw [if_neg e] at hin
  split
  · rename_i e; rw [if_pos e] at hin; exact h.step _ _ hin hc
  rename_i e
  rw [if_neg e] at hin
  exact ⟨h.1, h.2.1, hin, h.2.2.2.trans hc⟩

/-! ### Rounds -/
/-- Behind so many rounds. -/
def Rounds (r : Nat) (s : CNet) : Prop := phi s + r ≤ 61 ∨ phi s ≤ 0

/-- In a round that began with so much to come: less is to come, or all that was tried did nothing. -/
def InRnd (P : Int) (T : CNet → Prop) (s : CNet) : Prop := phi s + 1 ≤ P ∨ (phi s ≤ P ∧ T s)

theorem CRel.stopIn {w wr wr' : World} {t g n : Nat} {s : CNet} (h : CRel w wr t g n s) {P : Int} {T T' : CNet → Prop} (hr : InRnd P T s) (p : Int) (hT : ∀ s, T s → s.stopErr p ≠ 0 → T' s)
    (hin : CIn (fun b => b < w.heap.size) wr' t g (s.stop p)) (hc : Chg (NewB w) wr wr') : CRel w wr' t g n (s.stop p) ∧ InRnd P T' (s.stop p) := by
  refine ⟨h.stop p hin hc, ?_⟩
  obtain ⟨_, _, _, _, h5, h6⟩ := h.1.stop p
  by_cases he : s.stopErr p = 0
  · have := h5 he
    rcases hr with hr | hr
    · left; omega
    · left; omega
  · rw [h6 he]
    rcases hr with hr | hr
    · exact .inl hr
    · exact .inr ⟨hr.1, hT s hr.2 he⟩

theorem CRel.stepIn {w wr wr' : World} {t g n : Nat} {s : CNet} (h : CRel w wr t g n s) {P : Int} {T T' : CNet → Prop} (hr : InRnd P T s) (p q : Int) (hT : ∀ s, T s → s.stepErr p q ≠ 0 → T' s)
    (hin : CIn (fun b => b < w.heap.size) wr' t g (s.step p q)) (hc : Chg (NewB w) wr wr') : CRel w wr' t g n (s.step p q) ∧ InRnd P T' (s.step p q) := by
  refine ⟨h.step p q hin hc, ?_⟩
  obtain ⟨_, _, _, h5, h6⟩ := h.1.step p q
  by_cases he : s.stepErr p q = 0
  · have := h5 he
    rcases hr with hr | hr
    · left; omega
    · left; omega
  · rw [h6 he]
    rcases hr with hr | hr
    · exact .inl hr
    · exact .inr ⟨hr.1, hT s hr.2 he⟩

/-- Up to node p all stopped, and up to (p, q) all came. -/
def Tried (p q : Nat) (s : CNet) : Prop := (∀ a, a < p → s.stopErr a ≠ 0) ∧ (∀ a b, b < s.n → (a < p ∨ (a = p ∧ b < q)) → s.stepErr a b ≠ 0)
def Tried1 (p q : Nat) (s : CNet) : Prop := (∀ a, a ≤ p → s.stopErr a ≠ 0) ∧ (∀ a b, b < s.n → (a < p ∨ (a = p ∧ b < q)) → s.stepErr a b ≠ 0)

/-- Nothing can be done any more. -/
def Still (s : CNet) : Prop := (∀ p, p < s.n → s.works p = false) ∧ ∀ p q, p < s.n → q < s.n → s.ways p q = []

theorem tried_still {s : CNet} (h : Tried s.n 0 s) : Still s := by
  have hi : ∀ p, p < s.n → s.is p = true := fun p hp => (s.is_iff p).2 ⟨p, rfl, hp⟩
  refine ⟨fun p hp => ?_, fun p q hp hq => ?_⟩
  · have h1 := h.1 p hp
    unfold CNet.stopErr at h1
    rw [if_neg (by rw [hi p hp]; simp), Int.toNat_natCast] at h1
    cases hw : s.works p with
    | false => rfl
    | true => rw [hw] at h1; simp at h1
  · have h1 := h.2 p q hq (.inl hp)
    unfold CNet.stepErr at h1
    rw [if_neg (by rw [hi p hp, hi q hq]; simp), Int.toNat_natCast, Int.toNat_natCast] at h1
    cases hw : s.ways p q with
    | nil => rfl
    | cons x l => rw [hw] at h1; simp at h1

theorem still_phi {s : CNet} (hb : CBnd s) (h : Still s) : phi s = 0 := by
  obtain ⟨_, _, _, h4⟩ := hb.inv.still h.1 h.2
  have h1 : sumW s = 0 := sum2_zero fun p q hp hq => by rw [h.2 p q hp hq]; rfl
  have h2 : nWrk s = 0 := sum_zero fun p hp => by unfold wrk1; rw [h.1 p hp]; rfl
  unfold phi; omega

/-- What is true when nothing is to come. -/
theorem phi_still {s : CNet} (h : phi s ≤ 0) : Still s ∨ ∃ p q, p < s.n ∧ q < s.n ∧ cnt 1 (s.ways p q) = 0 ∧ cnt 2 (s.ways p q) = 0 ∧ s.ways p q ≠ [] := by
  have hW : 0 ≤ sumW s := sum2_nonneg fun _ _ _ _ => cnt_nonneg _ _
  have hT : 0 ≤ sumT s := sum2_nonneg fun _ _ _ _ => cnt_nonneg _ _
  have hE : 0 ≤ nEng s := sum_nonneg fun _ _ => by unfold eng1; split <;> omega
  have hK : 0 ≤ nWrk s := sum_nonneg fun _ _ => by unfold wrk1; split <;> omega
  unfold phi psi at h
  by_cases he : ∀ p q, p < s.n → q < s.n → s.ways p q = []
  · left
    refine ⟨fun p hp => ?_, he⟩
    have := sum_ge (n := s.n) (f := wrk1 s) (p := p) (fun _ _ => by unfold wrk1; split <;> omega) hp
    cases hw : s.works p with
    | false => rfl
    | true =>
      have h1 : wrk1 s p = 1 := by unfold wrk1; rw [if_pos hw]
      unfold nWrk at hK h
      omega
  · right
    refine Classical.byContradiction fun hn => he fun p q hp hq => Classical.byContradiction fun hne => hn ⟨p, q, hp, hq, ?_, ?_, hne⟩
    · have := sum2_ge (f := fun p q => cnt 1 (s.ways p q)) (fun _ _ _ _ => cnt_nonneg _ _) hp hq
      have h2 := cnt_nonneg 1 (s.ways p q)
      have h3 : cnt 1 (s.ways p q) ≤ sumW s := this
      omega
    · have := sum2_ge (f := fun p q => cnt 2 (s.ways p q)) (fun _ _ _ _ => cnt_nonneg _ _) hp hq
      have h2 := cnt_nonneg 2 (s.ways p q)
      have h3 : cnt 2 (s.ways p q) ≤ sumT s := this
      omega

theorem phi_still' {s : CNet} (hb : CBnd s) (h : phi s ≤ 0) : Still s := by
  rcases phi_still h with h | ⟨p, q, _, _, h1, h2, h3⟩
  · exact h
  · have := cnt_len (hb.inv.msg p q)
    exact absurd (List.eq_nil_of_length_eq_zero (by omega)) h3

theorem rounds_start {s : CNet} (hb : CBnd s) : Rounds 0 s := by
  have h1 := hb.phiLe
  have h2 := hb.inv.sent20
  left; omega

/-- A round's end. -/
theorem rounds_next {s : CNet} (hb : CBnd s) {r : Nat} {P : Int} (hP : P + r ≤ 61 ∨ P ≤ 0) (h : InRnd P (Tried s.n 0) s) : Rounds (r + 1) s := by
  rcases h with h | ⟨_, h⟩
  · rcases hP with hP | hP
    · left; push_cast; omega
    · right; omega
  · right
    have := still_phi hb (tried_still h)
    omega

end Go.Proofs.Ytbckjmbhipofaaa
