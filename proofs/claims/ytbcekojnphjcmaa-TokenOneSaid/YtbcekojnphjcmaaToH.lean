/-
  The lock whose token goes from one to the next: a closed fact, and one step of a script; rounds.
  Conditions: a net as New made it, behind any deeds.
-/
import Derived.Test.YtbcekojnphjcmaaToG
import Derived.Test.YtbcekojnphjcmaaIntss
namespace Go.Proofs.Ytbcekojnphjcmaa
open Go Go.RowKit

/-- What is known of a net while a law goes on: w is the world of the call's start. -/
def TRel (w wr : World) (t g n : Nat) (s : TNet) : Prop := TInv s ∧ s.n = n ∧ msgs s ≤ 300 ∧ TIn (fun b => b < w.heap.size) wr t g s ∧ Chg (NewB w) w wr

theorem TRel.sane {w wr : World} {t g n : Nat} {s : TNet} (h : TRel w wr t g n s) : Sane s := h.1.sane (by have := h.2.2.1; omega)
theorem TRel.ask {w wr wr' : World} {t g n : Nat} {s : TNet} (h : TRel w wr t g n s) (hk : kst s ≤ 290) (p : Int) (hin : TIn (fun b => b < w.heap.size) wr' t g (s.ask p)) (hc : Chg (NewB w) wr wr') : TRel w wr' t g n (s.ask p) ∧ kst (s.ask p) ≤ kst s + 1 := by
  obtain ⟨h1, h2, h3, h4⟩ := h.1.askD p
  have hk2 : kst (s.ask p) ≤ kst s + 1 := by
    by_cases he : s.askErr p = 0
    · exact (h3 he).1
    · rw [h4 he]; omega
  have := msgs_le_kst (s.ask p)
  exact ⟨⟨h1, h2.trans h.2.1, by omega, hin, h.2.2.2.2.trans hc⟩, hk2⟩
theorem TRel.leave {w wr wr' : World} {t g n : Nat} {s : TNet} (h : TRel w wr t g n s) (p : Int) (hin : TIn (fun b => b < w.heap.size) wr' t g (s.leave p)) (hc : Chg (NewB w) wr wr') : TRel w wr' t g n (s.leave p) ∧ kst (s.leave p) ≤ kst s + 1 := by
  obtain ⟨h1, h2, h3, h4, h5⟩ := h.1.leaveD p
  refine ⟨⟨h1, h2.trans h.2.1, by rw [h3]; exact h.2.2.1, hin, h.2.2.2.2.trans hc⟩, ?_⟩
  by_cases he : s.leaveErr p = 0
  · have := (h4 he).2; omega
  · rw [h5 he]; omega
theorem TRel.step {w wr wr' : World} {t g n : Nat} {s : TNet} (h : TRel w wr t g n s) (p q : Int) (hin : TIn (fun b => b < w.heap.size) wr' t g (s.step p q)) (hc : Chg (NewB w) wr wr') : TRel w wr' t g n (s.step p q) ∧ kst (s.step p q) ≤ kst s + 1 := by
  obtain ⟨h1, h2, h3, h4⟩ := h.1.stepD p q
  have hm := h.2.2.1
  by_cases he : s.stepErr p q = 0
  · obtain ⟨h5, _, h7⟩ := h3 he
    exact ⟨⟨h1, h2.trans h.2.1, by omega, hin, h.2.2.2.2.trans hc⟩, by omega⟩
  · have e := h4 he
    exact ⟨⟨h1, h2.trans h.2.1, by rw [e]; exact hm, hin, h.2.2.2.2.trans hc⟩, by rw [e]; omega⟩
theorem TRel.bring {w wr wr' : World} {t g n : Nat} {s : TNet} (h : TRel w wr t g n s) (hin : TIn (fun b => b < w.heap.size) wr' t g s.bring) (hc : Chg (NewB w) wr wr') : TRel w wr' t g n s.bring ∧ kst s.bring ≤ kst s + 1 := by
  obtain ⟨h1, h2, h3, h4, h5⟩ := h.1.bringD
  refine ⟨⟨h1, h2.trans h.2.1, by rw [h3]; exact h.2.2.1, hin, h.2.2.2.2.trans hc⟩, ?_⟩
  by_cases he : s.bringErr = 0
  · have := (h4 he).2; omega
  · rw [h5 he]; omega
theorem TRel.keep {w wr wr' : World} {t g n : Nat} {s : TNet} (h : TRel w wr t g n s) (hc : Chg NoF wr wr') : TRel w wr' t g n s := ⟨h.1, h.2.1, h.2.2.1, h.2.2.2.1.keep hc, h.2.2.2.2.trans hc.ofNo⟩

def TNet.act (s : TNet) (l : List Int) : TNet :=
  if l.length = 2 then (if l.getD 1 0 = 0 then s.ask (l.getD 0 0) else s.leave (l.getD 0 0)) else if l.length = 3 then s.step (l.getD 0 0) (l.getD 1 0) else if l.length = 1 then s.bring else s

theorem TRel.act {w wr wr' : World} {t g n : Nat} {s : TNet} (h : TRel w wr t g n s) (hk : kst s ≤ 290) (l : List Int) (hin : TIn (fun b => b < w.heap.size) wr' t g (s.act l)) (hc : Chg (NewB w) wr wr') : TRel w wr' t g n (s.act l) ∧ kst (s.act l) ≤ kst s + 1 := by
  unfold TNet.act at hin ⊢
  split
  · rename_i e; rw [if_pos e] at hin
    split
    · rename_i e2; rw [if_pos e2] at hin; exact h.ask hk _ hin hc
    · rename_i e2; rw [if_neg e2] at hin; exact h.leave _ hin hc
  rename_i e
  rw [if_neg e] at hin
  split
  · rename_i e; rw [if_pos e] at hin; exact h.step _ _ hin hc
  rename_i e
  rw [if_neg e] at hin
  split
  · rename_i e; rw [if_pos e] at hin; exact h.bring hin hc
  rename_i e
  rw [if_neg e] at hin
  exact ⟨⟨h.1, h.2.1, h.2.2.1, hin, h.2.2.2.2.trans hc⟩, by omega⟩

theorem TRel.start {w w1 w2 : World} {t g k : Nat} (hk1 : 1 ≤ k) (hk4 : k ≤ 4) (hc1 : Chg NoF w w1) (hc2 : Chg NoF w1 w2) (hin : TIn (fun b => b < w1.heap.size) w2 t g (TNet.init k)) : TRel w w2 t g k (TNet.init k) :=
  ⟨TInv.start hk1 hk4, rfl, by rw [(start_pots hk4).1]; decide, hin.mono (fun b hb => Nat.lt_of_lt_of_le hb hc1.size), (hc1.trans hc2).ofNo⟩

set_option maxHeartbeats 4000000 in
set_option maxRecDepth 100000 in
theorem tokenFact_any (w : World) : Calls Try.prog 6 #[] w fun e w' => e = .returned (.bool true) ∧ Chg NoF w w' := by
  go_enter Try.func6, Try.ntmps6
  go_wp2_with fail
  refine (new_any 2 w).mono ?_
  rintro e w1 ⟨hc1, h⟩
  rcases h with ⟨h, _⟩ | ⟨k, hk, _, _, t, g, rfl, hin⟩
  · exact absurd h (by decide)
  obtain rfl : k = 2 := by omega
  clear hk
  have hrel := TRel.start (w := w) (by decide) (by decide) (Chg.refl NoF w) hc1 hin
  have hk0 := (start_pots (n := 2) (by decide)).2
  have HREL := Lib.hid hrel
  have HG := Lib.hid (ask_any _ w1 t g _ HREL.out.2.2.2.1 HREL.out.sane 1)
  rw [show (TNet.init 2).askErr 1 = 0 by decide] at HG
  have HK := Lib.hid hk0
  clear hc1 hin hrel hk0
  go_wp2_with fail
  refine HG.out.mono ?_
  rintro e w2 ⟨rfl, hin, hc⟩
  rw [show errV 0 = .nilIface from rfl]
  have HREL2 := Lib.hid (HREL.out.ask (by have := HK.out; omega) 1 hin hc)
  have HT := Lib.hid (step_any _ w2 t g _ HREL2.out.1.2.2.2.1 HREL2.out.1.sane 1 0)
  rw [show ((TNet.init 2).ask 1).stepErr 1 0 = 0 by decide] at HT
  clear hin hc HG
  go_wp2_with fail
  refine HT.out.mono ?_
  rintro e w3 ⟨rfl, hin, hc⟩
  rw [show errV 0 = .nilIface from rfl]
  have HREL3 := Lib.hid (HREL2.out.1.step 1 0 hin hc)
  have HTK := Lib.hid (token_any _ w3 t g _ HREL3.out.1.2.2.2.1 (by decide))
  rw [show (((TNet.init 2).ask 1).step 1 0).holder = -1 by decide, show (((TNet.init 2).ask 1).step 1 0).targetOf = 1 by decide] at HTK
  clear hin hc HT
  go_wp2_with fail
  refine HTK.out.mono ?_
  rintro e w4 ⟨v', rfl, hrd, hc⟩
  have HREL4 := Lib.hid (HREL3.out.1.keep hc)
  have HB := Lib.hid (bring_any _ w4 t g _ HREL4.out.2.2.2.1 HREL4.out.sane)
  rw [show (((TNet.init 2).ask 1).step 1 0).bringErr = 0 by decide] at HB
  clear hrd hc HTK
  go_wp2_with fail
  refine HB.out.mono ?_
  rintro e w5 ⟨rfl, hin, hc⟩
  rw [show errV 0 = .nilIface from rfl]
  have HREL5 := Lib.hid (HREL4.out.bring hin hc)
  have HS := Lib.hid (state_any _ w5 t g _ HREL5.out.1.2.2.2.1 HREL5.out.1.1.n1 1)
  rw [show (((TNet.init 2).ask 1).step 1 0).bring.stateOf 1 = 2 by decide] at HS
  clear hin hc HB
  go_wp2_with fail
  refine HS.out.mono ?_
  rintro e w6 ⟨rfl, rfl⟩
  go_wp2
  go_ret
  have hc := HREL5.out.1.2.2.2.2
  exact ⟨rfl, hc.os, hc.tape, hc.output, hc.size, fun k hk _ => hc.block k hk (fun hn => hn hk)⟩

set_option maxHeartbeats 4000000 in
set_option maxRecDepth 100000 in
theorem does_any (S : Nat → Prop) (w : World) (t g : Nat) (s : TNet) (h : TIn S w t g s) (hs : Sane s) (hS : ∀ b, S b → b < w.heap.size) (v : Value) (l : List Int) (hl : Rd S w v l) :
    Calls Try.prog 8 #[.pointer (some ⟨t, 0, none⟩), v] w (DonePost S w t g (s.act l)) := by
  obtain ⟨n, hN⟩ : ∃ n, Hid (l.length = n) := ⟨_, Lib.hid rfl⟩
  by_cases h2 : n = 2
  · subst h2
    obtain ⟨b, off, c, rfl, hbS, hc⟩ := hl.form (by rw [hN.out]; omega)
    rw [hN.out] at hc ⊢
    have d0 := hc 0 (by omega)
    have d1 := hc 1 (by omega)
    obtain ⟨x, hX⟩ : ∃ x, Hid (l.getD 0 0 = x) := ⟨_, Lib.hid rfl⟩
    obtain ⟨y, hY⟩ : ∃ y, Hid (l.getD 1 0 = y) := ⟨_, Lib.hid rfl⟩
    rw [hX.out, Nat.add_zero] at d0
    rw [hY.out] at d1
    by_cases hy : y = 0
    · have HG := Lib.hid (ask_any S w t g s h hs x)
      have hact : Hid (s.act l = s.ask x) := Lib.hid (by unfold TNet.act; rw [if_pos hN.out, if_pos (by rw [hY.out]; exact hy), hX.out])
      have hy1 : (y == 0) = true := by rw [hy]; rfl
      have hy2 : (y != 0) = false := by rw [hy]; rfl
      clear h hs hl hc hy
      go_enter Try.func8, Try.ntmps8
      go_wp2_with fail
      refine HG.out.mono ?_
      rintro e w1 ⟨rfl, hin, hcc⟩
      replace d0 := hcc.cell_some d0 (fun hn => hn hbS)
      replace d1 := hcc.cell_some d1 (fun hn => hn hbS)
      go_wp2
      go_end0
      exact ⟨rfl, by rw [hact.out]; exact hin, hcc⟩
    · have HG := Lib.hid (leave_any S w t g s h hs x)
      have hact : Hid (s.act l = s.leave x) := Lib.hid (by unfold TNet.act; rw [if_pos hN.out, if_neg (by rw [hY.out]; exact hy), hX.out])
      have hy1 : (y == 0) = false := by rw [beq_eq_false_iff_ne]; exact hy
      have hy2 : (y != 0) = true := by rw [bne_iff_ne]; exact hy
      clear h hs hl hc hy
      go_enter Try.func8, Try.ntmps8
      go_wp2_with fail
      refine HG.out.mono ?_
      rintro e w1 ⟨rfl, hin, hcc⟩
      go_wp2
      go_end0
      exact ⟨rfl, by rw [hact.out]; exact hin, hcc⟩
  by_cases h1 : n = 1
  · subst h1
    obtain ⟨a, c, rfl⟩ := hl.val
    rw [hN.out]
    have HG := Lib.hid (bring_any S w t g s h hs)
    have hact : Hid (s.act l = s.bring) := Lib.hid (by unfold TNet.act; rw [if_neg (by rw [hN.out]; omega), if_neg (by rw [hN.out]; omega), if_pos hN.out])
    clear h hs hl
    go_enter Try.func8, Try.ntmps8
    go_wp2_with fail
    refine HG.out.mono ?_
    rintro e w1 ⟨rfl, hin, hcc⟩
    go_wp2
    go_end0
    exact ⟨rfl, by rw [hact.out]; exact hin, hcc⟩
  by_cases h3 : n = 3
  · subst h3
    obtain ⟨b, off, c, rfl, _, hc⟩ := hl.form (by rw [hN.out]; omega)
    rw [hN.out] at hc ⊢
    have d0 := hc 0 (by omega)
    have d1 := hc 1 (by omega)
    obtain ⟨x, hX⟩ : ∃ x, Hid (l.getD 0 0 = x) := ⟨_, Lib.hid rfl⟩
    obtain ⟨y, hY⟩ : ∃ y, Hid (l.getD 1 0 = y) := ⟨_, Lib.hid rfl⟩
    rw [hX.out, Nat.add_zero] at d0
    rw [hY.out] at d1
    have HG := Lib.hid (step_any S w.drew t g s (h.keep ((Chg.refl NoF w).drew)) hs x y)
    have hact : Hid (s.act l = s.step x y) := Lib.hid (by unfold TNet.act; rw [if_neg (by rw [hN.out]; omega), if_pos hN.out, hX.out, hY.out])
    clear h hs hl hc
    go_enter Try.func8, Try.ntmps8
    go_wp2_with fail
    refine wp_region_plan (Chg NoF w) 7 [(0,true),(1,true),(2,true),(3,true),(4,true),(5,true),(6,true),(7,false)] mixed (by kernel_rfl) (Chg.refl _ _).drew ?_
    simp only [planOps, List.map_cons, List.map_nil, List.getElem?_cons_zero, List.getElem?_cons_succ, Option.getD_some]
    generalize hops : List.toArray _ = ops
    iterate 7 (refine wpPlan_quiet (v := ?_) rfl (fun _ _ _ h => h) (by intro w1 hS; have s0 := hS.cell_some d0 (fun h => h); have s1 := hS.cell_some d1 (fun h => h); clear hS; go_simp; with_reducible rfl) ?_; (simp only [Act.put, List.setIfInBounds_toArray, List.set_cons_zero, List.set_cons_succ]))
    refine wpPlan_loud rfl (fun K hK => ?_)
    go_simp
    refine HG.out.mono ?_
    rintro e w1 ⟨rfl, hin, hcc⟩
    refine hK _ _ (fun h => absurd rfl h) ?_
    clear hK K
    clear hops
    refine wpPlan_nil ?_
    go_wp2
    go_end0
    exact ⟨rfl, by rw [hact.out]; exact hin, ((Chg.refl _ w).drew).trans hcc⟩
  obtain ⟨a, c, rfl⟩ := hl.val
  have hact : Hid (s.act l = s) := Lib.hid (by unfold TNet.act; rw [if_neg (by rw [hN.out]; exact h2), if_neg (by rw [hN.out]; exact h3), if_neg (by rw [hN.out]; exact h1)])
  have b1 : ((n : Int) == 1) = false := by rw [beq_eq_false_iff_ne]; omega
  have b2 : ((n : Int) == 2) = false := by rw [beq_eq_false_iff_ne]; omega
  have b3 : ((n : Int) == 3) = false := by rw [beq_eq_false_iff_ne]; omega
  rw [hN.out]
  have HH := Lib.hid h
  clear h hs hl h1 h2 h3
  go_enter Try.func8, Try.ntmps8
  go_wp2
  go_end0
  exact ⟨rfl, by rw [hact.out]; exact HH.out, Chg.refl _ _⟩

/-! ### Rounds -/
def Rounds (r : Nat) (s : TNet) : Prop := phi s + r ≤ 166 ∨ phi s ≤ 0
def InRnd (P : Int) (T : TNet → Prop) (s : TNet) : Prop := phi s + 1 ≤ P ∨ (phi s ≤ P ∧ T s)

theorem InRnd.mono {P : Int} {T T' : TNet → Prop} {s : TNet} (h : InRnd P T s) (hT : T s → T' s) : InRnd P T' s := by
  rcases h with h | h
  · exact .inl h
  · exact .inr ⟨h.1, hT h.2⟩

theorem InRnd.leave {P : Int} {T T' : TNet → Prop} {s : TNet} (hr : InRnd P T s) (h : TInv s) (p : Int) (hT : ∀ s, T s → s.leaveErr p ≠ 0 → T' s) : InRnd P T' (s.leave p) := by
  obtain ⟨_, _, _, h5, h6⟩ := h.leaveD p
  by_cases he : s.leaveErr p = 0
  · have := (h5 he).1
    rcases hr with hr | hr
    · left; omega
    · left; omega
  · rw [h6 he]
    rcases hr with hr | hr
    · exact .inl hr
    · exact .inr ⟨hr.1, hT s hr.2 he⟩

theorem InRnd.step {P : Int} {T T' : TNet → Prop} {s : TNet} (hr : InRnd P T s) (h : TInv s) (p q : Int) (hT : ∀ s, T s → s.stepErr p q ≠ 0 → T' s) : InRnd P T' (s.step p q) := by
  obtain ⟨_, _, h5, h6⟩ := h.stepD p q
  by_cases he : s.stepErr p q = 0
  · have := (h5 he).2.1
    rcases hr with hr | hr
    · left; omega
    · left; omega
  · rw [h6 he]
    rcases hr with hr | hr
    · exact .inl hr
    · exact .inr ⟨hr.1, hT s hr.2 he⟩

theorem InRnd.bring {P : Int} {T T' : TNet → Prop} {s : TNet} (hr : InRnd P T s) (h : TInv s) (hT : ∀ s, T s → s.bringErr ≠ 0 → T' s) : InRnd P T' s.bring := by
  obtain ⟨_, _, _, h5, h6⟩ := h.bringD
  by_cases he : s.bringErr = 0
  · have := (h5 he).1
    rcases hr with hr | hr
    · left; omega
    · left; omega
  · rw [h6 he]
    rcases hr with hr | hr
    · exact .inl hr
    · exact .inr ⟨hr.1, hT s hr.2 he⟩

def Tried (p q : Nat) (s : TNet) : Prop := s.bringErr ≠ 0 ∧ (∀ a, a < p → s.leaveErr a ≠ 0) ∧ (∀ a b, b < s.n → (a < p ∨ (a = p ∧ b < q)) → s.stepErr a b ≠ 0)
def Tried1 (p q : Nat) (s : TNet) : Prop := s.bringErr ≠ 0 ∧ (∀ a, a ≤ p → s.leaveErr a ≠ 0) ∧ (∀ a b, b < s.n → (a < p ∨ (a = p ∧ b < q)) → s.stepErr a b ≠ 0)

theorem tried_bring : ∀ s : TNet, True → s.bringErr ≠ 0 → Tried 0 0 s := fun s _ he => ⟨he, fun a ha => by omega, fun a b _ hab => by omega⟩

theorem tried_stop {p : Nat} : ∀ s, Tried p 0 s → s.leaveErr p ≠ 0 → Tried1 p 0 s := fun s h he =>
  ⟨h.1, fun a ha => by
    by_cases e : a = p
    · subst e; exact he
    · exact h.2.1 a (by omega), h.2.2⟩

theorem tried_step {p q : Nat} : ∀ s, Tried1 p q s → s.stepErr p q ≠ 0 → Tried1 p (q + 1) s := fun s h he =>
  ⟨h.1, h.2.1, fun a b hb hab => by
    by_cases e : a = p ∧ b = q
    · obtain ⟨rfl, rfl⟩ := e; exact he
    · exact h.2.2 a b hb (by omega)⟩

theorem tried_row {p : Nat} {s : TNet} (h : Tried1 p s.n s) : Tried (p + 1) 0 s :=
  ⟨h.1, fun a ha => h.2.1 a (by omega), fun a b hb hab => h.2.2 a b hb (by omega)⟩

theorem tried_still {s : TNet} (h : Tried s.n 0 s) : Still s := by
  have hi : ∀ p, p < s.n → s.is p = true := fun p hp => (s.is_iff p).2 ⟨p, rfl, hp⟩
  refine ⟨?_, fun p hp => ?_, fun p q hp hq => ?_⟩
  · have h1 := h.1
    unfold TNet.bringErr at h1
    refine Classical.byContradiction fun hn => h1 ?_
    rw [if_neg hn]
  · have h1 := h.2.1 p hp
    unfold TNet.leaveErr at h1
    rw [if_neg (by rw [hi p hp]; simp), Int.toNat_natCast] at h1
    cases hw : s.inn p with
    | false => rfl
    | true => rw [hw] at h1; simp at h1
  · have h1 := h.2.2 p q hq (.inl hp)
    unfold TNet.stepErr at h1
    rw [if_neg (by rw [hi p hp, hi q hq]; simp), Int.toNat_natCast, Int.toNat_natCast] at h1
    cases hw : s.ways p q with
    | nil => rfl
    | cons x l => rw [hw] at h1; simp at h1

theorem rounds_start {s : TNet} (h4 : s.n ≤ 4) (hk : kst s ≤ 158) : Rounds 0 s := by
  have h1 := phi_le_kst s h4
  left; omega

theorem rounds_in {r : Nat} {s : TNet} (h : Rounds r s) : ∃ P : Int, (P + r ≤ 166 ∨ P ≤ 0) ∧ InRnd P (fun _ => True) s :=
  ⟨phi s, h, .inr ⟨Int.le_refl _, trivial⟩⟩

theorem rounds_next {s : TNet} (hb : TInv s) {r : Nat} {P : Int} (hP : P + r ≤ 166 ∨ P ≤ 0) (h : InRnd P (Tried s.n 0) s) : Rounds (r + 1) s := by
  rcases h with h | ⟨_, h⟩
  · rcases hP with hP | hP
    · left; push_cast; omega
    · right; omega
  · right
    have := (hb.still (tried_still h)).2.2
    omega

theorem rounds_end {r : Nat} {s : TNet} (hb : TInv s) (h : Rounds r s) (hr : 167 ≤ r) : Still s := by
  have := phi_nonneg s
  rcases h with h | h
  · omega
  · exact phi_still hb h

end Go.Proofs.Ytbcekojnphjcmaa
