/-
  The walk of CalmThanks: when all is calm twice as much came as work was given, and nobody is owed anything.
  Conditions: the steps are read as lists of integers.
-/
import Derived.Test.YtbckjmbhipofaaaCaJ
namespace Go.Proofs.Ytbckjmbhipofaaa
open Go Go.RowKit

/-- What the law knows: how much was given, and how much came. -/
def TRel (w wr : World) (t g n : Nat) (s : CNet) (gave came : Int) : Prop := CRel w wr t g n s ∧ came + psi s = 2 * gave ∧ gave = s.sent

theorem TRel.bounds {w wr : World} {t g n : Nat} {s : CNet} {gave came : Int} (h : TRel w wr t g n s gave came) : 0 ≤ gave ∧ gave ≤ 20 ∧ 0 ≤ came ∧ came ≤ 40 := by
  obtain ⟨h1, h2, h3⟩ := h
  have := h1.1.psiLe
  have := psi_nonneg s
  have := h1.1.inv.sent0
  have := h1.1.inv.sent20
  omega

theorem TRel.give0 {w wr wr' : World} {t g n : Nat} {s : CNet} {gave came : Int} (h : TRel w wr t g n s gave came) {p q : Int} (he : s.giveErr p q = 0) (hin : CIn (fun b => b < w.heap.size) wr' t g (s.give p q)) (hc : Chg (NewB w) wr wr') : TRel w wr' t g n (s.give p q) (gave + 1) came := by
  have := (h.1.1.give p q).2.2.1 he
  exact ⟨h.1.give p q hin hc, by have := h.2.1; omega, by have := h.2.2; omega⟩
theorem TRel.giveN {w wr wr' : World} {t g n : Nat} {s : CNet} {gave came : Int} (h : TRel w wr t g n s gave came) {p q : Int} (he : s.giveErr p q ≠ 0) (hin : CIn (fun b => b < w.heap.size) wr' t g (s.give p q)) (hc : Chg (NewB w) wr wr') : TRel w wr' t g n (s.give p q) gave came := by
  have e := (h.1.1.give p q).2.2.2 he
  refine ⟨h.1.give p q hin hc, ?_, ?_⟩
  · rw [e]; exact h.2.1
  · rw [e]; exact h.2.2
theorem TRel.stop {w wr wr' : World} {t g n : Nat} {s : CNet} {gave came : Int} (h : TRel w wr t g n s gave came) {p : Int} (hin : CIn (fun b => b < w.heap.size) wr' t g (s.stop p)) (hc : Chg (NewB w) wr wr') : TRel w wr' t g n (s.stop p) gave came := by
  obtain ⟨_, _, h3, h4, _, _⟩ := h.1.1.stop p
  exact ⟨h.1.stop p hin hc, by rw [h4]; exact h.2.1, by rw [h3]; exact h.2.2⟩
theorem TRel.step0 {w wr wr' : World} {t g n : Nat} {s : CNet} {gave came : Int} (h : TRel w wr t g n s gave came) {p q : Int} (he : s.stepErr p q = 0) (hin : CIn (fun b => b < w.heap.size) wr' t g (s.step p q)) (hc : Chg (NewB w) wr wr') : TRel w wr' t g n (s.step p q) gave (came + 1) := by
  obtain ⟨_, _, h3, h4, _⟩ := h.1.1.step p q
  have := (h4 he).1
  exact ⟨h.1.step p q hin hc, by have := h.2.1; omega, by rw [h3]; exact h.2.2⟩
theorem TRel.stepN {w wr wr' : World} {t g n : Nat} {s : CNet} {gave came : Int} (h : TRel w wr t g n s gave came) {p q : Int} (he : s.stepErr p q ≠ 0) (hin : CIn (fun b => b < w.heap.size) wr' t g (s.step p q)) (hc : Chg (NewB w) wr wr') : TRel w wr' t g n (s.step p q) gave came := by
  have e := (h.1.1.step p q).2.2.2.2 he
  refine ⟨h.1.step p q hin hc, ?_, ?_⟩
  · rw [e]; exact h.2.1
  · rw [e]; exact h.2.2
theorem TRel.keep {w wr wr' : World} {t g n : Nat} {s : CNet} {gave came : Int} (h : TRel w wr t g n s gave came) (hc : Chg NoF wr wr') : TRel w wr' t g n s gave came :=
  ⟨⟨h.1.1, h.1.2.1, h.1.2.2.1.keep hc, h.1.2.2.2.trans hc.ofNo⟩, h.2⟩

set_option maxHeartbeats 8000000 in
set_option maxRecDepth 100000 in
theorem thanks_walk (n : Int) (v : Value) (ll : List (List Int)) (w : World) (hr : Rd2 (fun k => k < w.heap.size) w v ll) (hlb : ll.length ≤ 9223372036854775807) :
    Calls Try.prog 4 #[.int .i64 n, v] w fun e w' => e = .returned (.bool true) ∧ Chg (NewB w) w w' := by
  have HR := Lib.hid hr
  clear hr
  go_enter Try.func4, Try.ntmps4
  go_wp2_with fail
  refine (calmFact_any w).mono ?_
  rintro e w1 ⟨rfl, hc1⟩
  go_wp2_with fail
  refine (new_any n w1).mono ?_
  rintro e w2 ⟨hc2, hnew⟩
  have HC1 := Lib.hid hc1
  have HC2 := Lib.hid hc2
  clear hc1 hc2
  rcases hnew with ⟨hbad, rfl⟩ | ⟨k, rfl, hk1, hk5, t, g, rfl, hin⟩
  · have hb : decide (n < 1) = true ∨ (decide (n < 1) = false ∧ decide (5 < n) = true) := by
      rcases Bool.and_eq_false_iff.1 hbad with h | h
      · left; rw [decide_eq_true_eq]; have := of_decide_eq_false h; omega
      · by_cases h1 : n < 1
        · left; rw [decide_eq_true_eq]; exact h1
        · right; rw [decide_eq_true_eq, decide_eq_false_iff_not]; have := of_decide_eq_false h; omega
    rw [show errV 1 = .iface 40 (.int .i64 1) from rfl]
    clear hbad
    rcases hb with hb | ⟨hb1, hb2⟩
    · go_wp2
      go_ret
      exact ⟨rfl, (HC1.out.trans HC2.out).ofNo⟩
    · go_wp2
      go_ret
      exact ⟨rfl, (HC1.out.trans HC2.out).ofNo⟩
  have HREL : Hid (TRel w w2 t g k (CNet.init k) 0 0) := Lib.hid ⟨⟨CBnd.start hk1 hk5, rfl, hin.mono (fun b hb => Nat.lt_of_lt_of_le hb HC1.out.size), (HC1.out.trans HC2.out).ofNo⟩, by
    have h1 := (CBnd.start hk1 hk5).psiLe
    have h2 := psi_nonneg (CNet.init k)
    have h3 : (CNet.init k).sent = 0 := rfl
    omega, rfl⟩
  clear hin
  obtain ⟨pv, cv, rfl⟩ := HR.out.val
  obtain ⟨sl, hSL⟩ : ∃ sl, Hid (ll.length = sl) := ⟨_, Lib.hid rfl⟩
  rw [hSL.out] at hlb HR ⊢
  go_wp2_with fail
  go_loopw [8, 9, 10] (fun gv cm i wr => ∃ j : Nat, j ≤ sl ∧ j ≤ 150 ∧ i = .int .i64 j ∧ ∃ gx cx : Int, gv = .int .i64 gx ∧ cm = .int .i64 cx ∧ ∃ s, Hid (TRel w wr t g k s gx cx)) (fun _ _ i _ => 150 - (intOf i).toNat)
  case atStart => exact ⟨0, Nat.zero_le _, Nat.zero_le _, rfl, 0, 0, rfl, rfl, _, HREL⟩
  case round =>
    obtain ⟨j, hjsl, hj150, rfl, gx, cx, rfl, rfl, s, HT⟩ := hrel
    obtain ⟨hg0, hg20, hx0, hx40⟩ := HT.out.bounds
    by_cases hlt : j < sl ∧ j < 150
    · obtain ⟨hlt1, hlt2⟩ := hlt
      obtain ⟨b, off, c, u, e1, hcell, hrow, hrl⟩ := HR.out.at HT.out.1.2.2.2 (fun b hb hn => hn hb) (j := j) (by rw [hSL.out]; exact hlt1)
      simp only [Value.slice.injEq] at e1
      obtain ⟨rfl, -, rfl⟩ := e1
      have hj1 : (j : Int) < sl := by omega
      have hj2 : (j : Int) < 150 := by omega
      obtain ⟨l, HL⟩ : ∃ l, Hid (ll.getD j [] = l) := ⟨_, Lib.hid rfl⟩
      rw [HL.out] at hrow hrl
      obtain ⟨m, hM⟩ : ∃ m, Hid (l.length = m) := ⟨_, Lib.hid rfl⟩
      rw [hM.out] at hrl
      have HROW := Lib.hid hrow
      clear hrow
      by_cases h2 : m = 2
      · subst h2
        obtain ⟨b2, off2, c2, rfl, hbS, hc⟩ := HROW.out.form (by rw [hM.out]; omega)
        rw [hM.out] at hc hcell
        have d0 := hc 0 (by omega)
        have d1 := hc 1 (by omega)
        obtain ⟨x, hX⟩ : ∃ x, Hid (l.getD 0 0 = x) := ⟨_, Lib.hid rfl⟩
        obtain ⟨y, hY⟩ : ∃ y, Hid (l.getD 1 0 = y) := ⟨_, Lib.hid rfl⟩
        rw [hX.out, Nat.add_zero] at d0
        rw [hY.out] at d1
        have HG := Lib.hid (give_any _ _ t g s (HT.out.1.2.2.1.keep ((Chg.refl NoF _).drew)) HT.out.1.1.sane x y)
        clear hc hrl
        by_cases he : s.giveErr x y = 0
        · rw [he] at HG
          have HE := Lib.hid he
          clear he
          go_wp2_with fail
          refine wp_region_plan (Chg (NewB w) _) 14 [(0,true),(1,true),(2,true),(3,true),(4,true),(5,true),(6,true),(7,true),(8,true),(9,true),(10,true),(11,false),(12,true),(13,true)] mixed (by kernel_rfl) (Chg.refl _ _).drew ?_
          simp only [planOps, List.map_cons, List.map_nil, List.getElem?_cons_zero, List.getElem?_cons_succ, Option.getD_some]
          generalize hops : List.toArray _ = ops
          iterate 4 (refine wpPlan_quiet (v := ?_) rfl (fun _ _ _ h => h) (by intro w1 hS; clear hS; go_simp; with_reducible rfl) ?_; (simp only [Act.put, List.setIfInBounds_toArray, List.set_cons_zero, List.set_cons_succ]))
          iterate 7 (refine wpPlan_quietG (v := ?_) (by rw [← hops]; rfl) (fun _ _ _ h => h) (by intro w1 hS; have s0 := hS.cell_some d0 (fun hn => hn hbS); have s1 := hS.cell_some d1 (fun hn => hn hbS); clear hS; go_simp; with_reducible rfl) ?_; (simp only [Act.put, List.setIfInBounds_toArray, List.set_cons_zero, List.set_cons_succ]))
          refine wpPlan_loudG (by rw [← hops]; rfl) (fun K hK => ?_)
          go_simp
          refine HG.out.mono ?_
          rintro e w1 ⟨rfl, hin, hcc⟩
          have hcc' : Chg (NewB w) _ w1 := ((Chg.refl (NewB w) _).drew).trans hcc
          rw [show errV 0 = .nilIface from rfl]
          refine hK _ _ (fun _ => hcc') ?_
          clear hK K
          (try simp only [Act.put, List.setIfInBounds_toArray, List.set_cons_zero, List.set_cons_succ])
          (refine wpPlan_quietG (v := ?_) (by rw [← hops]; rfl) (fun _ _ _ h => h) (by intro w1 hS; clear hS; go_simp; with_reducible rfl) ?_; (simp only [Act.put, List.setIfInBounds_toArray, List.set_cons_zero, List.set_cons_succ]))
          (refine wpPlan_quiet (v := ?_) rfl (fun _ _ _ h => h) (by intro w1 hS; clear hS; go_simp; with_reducible rfl) ?_; (simp only [Act.put, List.setIfInBounds_toArray, List.set_cons_zero, List.set_cons_succ]))
          clear hops
          refine wpPlan_nil ?_
          have HT1 := Lib.hid (HT.out.give0 HE.out hin hcc')
          clear hin hcc hcc' HG
          go_wp2_with fail
          refine wp_region_plan (Chg NoF _) 14 [(0,true),(1,true),(2,true),(3,true),(4,true),(5,true),(6,true),(7,true),(8,true),(9,true),(10,true),(11,true),(12,true),(13,true)] mixed (by kernel_rfl) (Chg.refl _ _).drew ?_
          simp only [planOps, List.map_cons, List.map_nil, List.getElem?_cons_zero, List.getElem?_cons_succ, Option.getD_some]
          generalize hops : List.toArray _ = ops
          iterate 4 (refine wpPlan_quiet (v := ?_) rfl (fun _ _ _ h => h) (by intro w1 hS; clear hS; go_simp; with_reducible rfl) ?_; (simp only [Act.put, List.setIfInBounds_toArray, List.set_cons_zero, List.set_cons_succ]))
          iterate 9 (refine wpPlan_skip (by rw [← hops]; rfl) (fun _ _ _ h => h) ?_; (simp only [Act.put, List.setIfInBounds_toArray, List.set_cons_zero, List.set_cons_succ]))
          (refine wpPlan_quiet (v := ?_) rfl (fun _ _ _ h => h) (by intro w1 hS; clear hS; go_simp; with_reducible rfl) ?_; (simp only [Act.put, List.setIfInBounds_toArray, List.set_cons_zero, List.set_cons_succ]))
          clear hops
          refine wpPlan_nil ?_
          have HT2 := Lib.hid (HT1.out.keep ((Chg.refl NoF _).drew))
          go_wp2
          go_roundw
          case rel => exact ⟨j + 1, by omega, by omega, by go_num, gx + 1, cx, rfl, by go_num, _, HT2⟩
          case measure => simp [intOf]; omega
        · obtain ⟨ec, hEC⟩ : ∃ ec, Hid (s.giveErr x y = ec) := ⟨_, Lib.hid rfl⟩
          have HE := Lib.hid he
          rw [hEC.out] at HG he
          have HNE := Lib.hid he
          clear he
          go_wp2_with fail
          refine wp_region_plan (Chg (NewB w) _) 14 [(0,true),(1,true),(2,true),(3,true),(4,true),(5,true),(6,true),(7,true),(8,true),(9,true),(10,true),(11,false),(12,true),(13,true)] mixed (by kernel_rfl) (Chg.refl _ _).drew ?_
          simp only [planOps, List.map_cons, List.map_nil, List.getElem?_cons_zero, List.getElem?_cons_succ, Option.getD_some]
          generalize hops : List.toArray _ = ops
          iterate 4 (refine wpPlan_quiet (v := ?_) rfl (fun _ _ _ h => h) (by intro w1 hS; clear hS; go_simp; with_reducible rfl) ?_; (simp only [Act.put, List.setIfInBounds_toArray, List.set_cons_zero, List.set_cons_succ]))
          iterate 7 (refine wpPlan_quietG (v := ?_) (by rw [← hops]; rfl) (fun _ _ _ h => h) (by intro w1 hS; have s0 := hS.cell_some d0 (fun hn => hn hbS); have s1 := hS.cell_some d1 (fun hn => hn hbS); clear hS; go_simp; with_reducible rfl) ?_; (simp only [Act.put, List.setIfInBounds_toArray, List.set_cons_zero, List.set_cons_succ]))
          refine wpPlan_loudG (by rw [← hops]; rfl) (fun K hK => ?_)
          go_simp
          refine HG.out.mono ?_
          rintro e w1 ⟨rfl, hin, hcc⟩
          have hcc' : Chg (NewB w) _ w1 := ((Chg.refl (NewB w) _).drew).trans hcc
          rw [show errV ec = .iface 40 (.int .i64 ec) by unfold errV; rw [if_neg HNE.out]]
          refine hK _ _ (fun _ => hcc') ?_
          clear hK K
          (try simp only [Act.put, List.setIfInBounds_toArray, List.set_cons_zero, List.set_cons_succ])
          (refine wpPlan_quietG (v := ?_) (by rw [← hops]; rfl) (fun _ _ _ h => h) (by intro w1 hS; clear hS; go_simp; with_reducible rfl) ?_; (simp only [Act.put, List.setIfInBounds_toArray, List.set_cons_zero, List.set_cons_succ]))
          (refine wpPlan_quiet (v := ?_) rfl (fun _ _ _ h => h) (by intro w1 hS; clear hS; go_simp; with_reducible rfl) ?_; (simp only [Act.put, List.setIfInBounds_toArray, List.set_cons_zero, List.set_cons_succ]))
          clear hops
          refine wpPlan_nil ?_
          have HT1 := Lib.hid (HT.out.giveN HE.out hin hcc')
          clear hin hcc hcc' HG
          go_wp2_with fail
          refine wp_region_plan (Chg NoF _) 14 [(0,true),(1,true),(2,true),(3,true),(4,true),(5,true),(6,true),(7,true),(8,true),(9,true),(10,true),(11,true),(12,true),(13,true)] mixed (by kernel_rfl) (Chg.refl _ _).drew ?_
          simp only [planOps, List.map_cons, List.map_nil, List.getElem?_cons_zero, List.getElem?_cons_succ, Option.getD_some]
          generalize hops : List.toArray _ = ops
          iterate 4 (refine wpPlan_quiet (v := ?_) rfl (fun _ _ _ h => h) (by intro w1 hS; clear hS; go_simp; with_reducible rfl) ?_; (simp only [Act.put, List.setIfInBounds_toArray, List.set_cons_zero, List.set_cons_succ]))
          iterate 9 (refine wpPlan_skip (by rw [← hops]; rfl) (fun _ _ _ h => h) ?_; (simp only [Act.put, List.setIfInBounds_toArray, List.set_cons_zero, List.set_cons_succ]))
          (refine wpPlan_quiet (v := ?_) rfl (fun _ _ _ h => h) (by intro w1 hS; clear hS; go_simp; with_reducible rfl) ?_; (simp only [Act.put, List.setIfInBounds_toArray, List.set_cons_zero, List.set_cons_succ]))
          clear hops
          refine wpPlan_nil ?_
          have HT2 := Lib.hid (HT1.out.keep ((Chg.refl NoF _).drew))
          go_wp2
          go_roundw
          case rel => exact ⟨j + 1, by omega, by omega, by go_num, gx, cx, rfl, by go_num, _, HT2⟩
          case measure => simp [intOf]; omega
      by_cases h1 : m = 1
      · subst h1
        obtain ⟨b2, off2, c2, rfl, hbS, hc⟩ := HROW.out.form (by rw [hM.out]; omega)
        rw [hM.out] at hc hcell
        have d0 := hc 0 (by omega)
        obtain ⟨x, hX⟩ : ∃ x, Hid (l.getD 0 0 = x) := ⟨_, Lib.hid rfl⟩
        rw [hX.out, Nat.add_zero] at d0
        have HG := Lib.hid (stop_any _ _ t g s (HT.out.1.2.2.1.keep ((Chg.refl NoF _).drew)) HT.out.1.1.sane x)
        clear hc hrl h2
        go_wp2_with fail
        refine wp_region_plan (Chg NoF _) 14 [(0,true),(1,true),(2,true),(3,true),(4,true),(5,true),(6,true),(7,true),(8,true),(9,true),(10,true),(11,true),(12,true),(13,true)] mixed (by kernel_rfl) (Chg.refl _ _).drew ?_
        simp only [planOps, List.map_cons, List.map_nil, List.getElem?_cons_zero, List.getElem?_cons_succ, Option.getD_some]
        generalize hops : List.toArray _ = ops
        iterate 4 (refine wpPlan_quiet (v := ?_) rfl (fun _ _ _ h => h) (by intro w1 hS; clear hS; go_simp; with_reducible rfl) ?_; (simp only [Act.put, List.setIfInBounds_toArray, List.set_cons_zero, List.set_cons_succ]))
        iterate 9 (refine wpPlan_skip (by rw [← hops]; rfl) (fun _ _ _ h => h) ?_; (simp only [Act.put, List.setIfInBounds_toArray, List.set_cons_zero, List.set_cons_succ]))
        (refine wpPlan_quiet (v := ?_) rfl (fun _ _ _ h => h) (by intro w1 hS; clear hS; go_simp; with_reducible rfl) ?_; (simp only [Act.put, List.setIfInBounds_toArray, List.set_cons_zero, List.set_cons_succ]))
        clear hops
        refine wpPlan_nil ?_
        have d0' := ((Chg.refl NoF _).drew).cell_some d0 (fun h => h)
        go_wp2_with fail
        refine HG.out.mono ?_
        rintro e w1 ⟨rfl, hin, hcc⟩
        have HT1 := Lib.hid (HT.out.stop hin (((Chg.refl (NewB w) _).drew).trans hcc))
        clear hin hcc HG d0 d0'
        go_wp2_with fail
        refine wp_region_plan (Chg NoF _) 14 [(0,true),(1,true),(2,true),(3,true),(4,true),(5,true),(6,true),(7,true),(8,true),(9,true),(10,true),(11,true),(12,true),(13,true)] mixed (by kernel_rfl) (Chg.refl _ _).drew ?_
        simp only [planOps, List.map_cons, List.map_nil, List.getElem?_cons_zero, List.getElem?_cons_succ, Option.getD_some]
        generalize hops : List.toArray _ = ops
        iterate 4 (refine wpPlan_quiet (v := ?_) rfl (fun _ _ _ h => h) (by intro w1 hS; clear hS; go_simp; with_reducible rfl) ?_; (simp only [Act.put, List.setIfInBounds_toArray, List.set_cons_zero, List.set_cons_succ]))
        iterate 9 (refine wpPlan_skip (by rw [← hops]; rfl) (fun _ _ _ h => h) ?_; (simp only [Act.put, List.setIfInBounds_toArray, List.set_cons_zero, List.set_cons_succ]))
        (refine wpPlan_quiet (v := ?_) rfl (fun _ _ _ h => h) (by intro w1 hS; clear hS; go_simp; with_reducible rfl) ?_; (simp only [Act.put, List.setIfInBounds_toArray, List.set_cons_zero, List.set_cons_succ]))
        clear hops
        refine wpPlan_nil ?_
        have HT2 := Lib.hid (HT1.out.keep ((Chg.refl NoF _).drew))
        go_wp2
        go_roundw
        case rel => exact ⟨j + 1, by omega, by omega, by go_num, gx, cx, rfl, by go_num, _, HT2⟩
        case measure => simp [intOf]; omega
      by_cases h3 : m = 3
      · subst h3
        obtain ⟨b2, off2, c2, rfl, hbS, hc⟩ := HROW.out.form (by rw [hM.out]; omega)
        rw [hM.out] at hc hcell
        have d0 := hc 0 (by omega)
        have d1 := hc 1 (by omega)
        obtain ⟨x, hX⟩ : ∃ x, Hid (l.getD 0 0 = x) := ⟨_, Lib.hid rfl⟩
        obtain ⟨y, hY⟩ : ∃ y, Hid (l.getD 1 0 = y) := ⟨_, Lib.hid rfl⟩
        rw [hX.out, Nat.add_zero] at d0
        rw [hY.out] at d1
        clear hc hrl h2 h1
        go_wp2_with fail
        refine wp_region_plan (Chg NoF _) 14 [(0,true),(1,true),(2,true),(3,true),(4,true),(5,true),(6,true),(7,true),(8,true),(9,true),(10,true),(11,true),(12,true),(13,true)] mixed (by kernel_rfl) (Chg.refl _ _).drew ?_
        simp only [planOps, List.map_cons, List.map_nil, List.getElem?_cons_zero, List.getElem?_cons_succ, Option.getD_some]
        generalize hops : List.toArray _ = ops
        iterate 4 (refine wpPlan_quiet (v := ?_) rfl (fun _ _ _ h => h) (by intro w1 hS; clear hS; go_simp; with_reducible rfl) ?_; (simp only [Act.put, List.setIfInBounds_toArray, List.set_cons_zero, List.set_cons_succ]))
        iterate 9 (refine wpPlan_skip (by rw [← hops]; rfl) (fun _ _ _ h => h) ?_; (simp only [Act.put, List.setIfInBounds_toArray, List.set_cons_zero, List.set_cons_succ]))
        (refine wpPlan_quiet (v := ?_) rfl (fun _ _ _ h => h) (by intro w1 hS; clear hS; go_simp; with_reducible rfl) ?_; (simp only [Act.put, List.setIfInBounds_toArray, List.set_cons_zero, List.set_cons_succ]))
        clear hops
        refine wpPlan_nil ?_
        replace d0 := ((Chg.refl NoF _).drew).cell_some d0 (fun h => h)
        replace d1 := ((Chg.refl NoF _).drew).cell_some d1 (fun h => h)
        have HTd := Lib.hid (HT.out.keep ((Chg.refl NoF _).drew))
        have HG := Lib.hid (step_any _ _ t g s (HTd.out.1.2.2.1.keep ((Chg.refl NoF _).drew)) HT.out.1.1.sane x y)
        by_cases he : s.stepErr x y = 0
        · rw [he] at HG
          have HE := Lib.hid he
          clear he
          go_wp2_with fail
          refine wp_region_plan (Chg (NewB w) _) 14 [(0,true),(1,true),(2,true),(3,true),(4,true),(5,true),(6,true),(7,true),(8,true),(9,true),(10,true),(11,false),(12,true),(13,true)] mixed (by kernel_rfl) (Chg.refl _ _).drew ?_
          simp only [planOps, List.map_cons, List.map_nil, List.getElem?_cons_zero, List.getElem?_cons_succ, Option.getD_some]
          generalize hops : List.toArray _ = ops
          iterate 4 (refine wpPlan_quiet (v := ?_) rfl (fun _ _ _ h => h) (by intro w1 hS; clear hS; go_simp; with_reducible rfl) ?_; (simp only [Act.put, List.setIfInBounds_toArray, List.set_cons_zero, List.set_cons_succ]))
          iterate 7 (refine wpPlan_quietG (v := ?_) (by rw [← hops]; rfl) (fun _ _ _ h => h) (by intro w1 hS; have s0 := hS.cell_some d0 (fun hn => hn hbS); have s1 := hS.cell_some d1 (fun hn => hn hbS); clear hS; go_simp; with_reducible rfl) ?_; (simp only [Act.put, List.setIfInBounds_toArray, List.set_cons_zero, List.set_cons_succ]))
          refine wpPlan_loudG (by rw [← hops]; rfl) (fun K hK => ?_)
          go_simp
          refine HG.out.mono ?_
          rintro e w1 ⟨rfl, hin, hcc⟩
          have hcc' : Chg (NewB w) _ w1 := ((Chg.refl (NewB w) _).drew).trans hcc
          rw [show errV 0 = .nilIface from rfl]
          refine hK _ _ (fun _ => hcc') ?_
          clear hK K
          (try simp only [Act.put, List.setIfInBounds_toArray, List.set_cons_zero, List.set_cons_succ])
          (refine wpPlan_quietG (v := ?_) (by rw [← hops]; rfl) (fun _ _ _ h => h) (by intro w1 hS; clear hS; go_simp; with_reducible rfl) ?_; (simp only [Act.put, List.setIfInBounds_toArray, List.set_cons_zero, List.set_cons_succ]))
          (refine wpPlan_quiet (v := ?_) rfl (fun _ _ _ h => h) (by intro w1 hS; clear hS; go_simp; with_reducible rfl) ?_; (simp only [Act.put, List.setIfInBounds_toArray, List.set_cons_zero, List.set_cons_succ]))
          clear hops
          refine wpPlan_nil ?_
          have HT2 := Lib.hid (HTd.out.step0 HE.out hin hcc')
          clear hin hcc hcc' HG
          go_wp2
          go_roundw
          case rel => exact ⟨j + 1, by omega, by omega, by go_num, gx, cx + 1, rfl, by go_num, _, HT2⟩
          case measure => simp [intOf]; omega
        · obtain ⟨ec, hEC⟩ : ∃ ec, Hid (s.stepErr x y = ec) := ⟨_, Lib.hid rfl⟩
          have HE := Lib.hid he
          rw [hEC.out] at HG he
          have HNE := Lib.hid he
          clear he
          go_wp2_with fail
          refine wp_region_plan (Chg (NewB w) _) 14 [(0,true),(1,true),(2,true),(3,true),(4,true),(5,true),(6,true),(7,true),(8,true),(9,true),(10,true),(11,false),(12,true),(13,true)] mixed (by kernel_rfl) (Chg.refl _ _).drew ?_
          simp only [planOps, List.map_cons, List.map_nil, List.getElem?_cons_zero, List.getElem?_cons_succ, Option.getD_some]
          generalize hops : List.toArray _ = ops
          iterate 4 (refine wpPlan_quiet (v := ?_) rfl (fun _ _ _ h => h) (by intro w1 hS; clear hS; go_simp; with_reducible rfl) ?_; (simp only [Act.put, List.setIfInBounds_toArray, List.set_cons_zero, List.set_cons_succ]))
          iterate 7 (refine wpPlan_quietG (v := ?_) (by rw [← hops]; rfl) (fun _ _ _ h => h) (by intro w1 hS; have s0 := hS.cell_some d0 (fun hn => hn hbS); have s1 := hS.cell_some d1 (fun hn => hn hbS); clear hS; go_simp; with_reducible rfl) ?_; (simp only [Act.put, List.setIfInBounds_toArray, List.set_cons_zero, List.set_cons_succ]))
          refine wpPlan_loudG (by rw [← hops]; rfl) (fun K hK => ?_)
          go_simp
          refine HG.out.mono ?_
          rintro e w1 ⟨rfl, hin, hcc⟩
          have hcc' : Chg (NewB w) _ w1 := ((Chg.refl (NewB w) _).drew).trans hcc
          rw [show errV ec = .iface 40 (.int .i64 ec) by unfold errV; rw [if_neg HNE.out]]
          refine hK _ _ (fun _ => hcc') ?_
          clear hK K
          (try simp only [Act.put, List.setIfInBounds_toArray, List.set_cons_zero, List.set_cons_succ])
          (refine wpPlan_quietG (v := ?_) (by rw [← hops]; rfl) (fun _ _ _ h => h) (by intro w1 hS; clear hS; go_simp; with_reducible rfl) ?_; (simp only [Act.put, List.setIfInBounds_toArray, List.set_cons_zero, List.set_cons_succ]))
          (refine wpPlan_quiet (v := ?_) rfl (fun _ _ _ h => h) (by intro w1 hS; clear hS; go_simp; with_reducible rfl) ?_; (simp only [Act.put, List.setIfInBounds_toArray, List.set_cons_zero, List.set_cons_succ]))
          clear hops
          refine wpPlan_nil ?_
          have HT2 := Lib.hid (HTd.out.stepN HE.out hin hcc')
          clear hin hcc hcc' HG
          go_wp2
          go_roundw
          case rel => exact ⟨j + 1, by omega, by omega, by go_num, gx, cx, rfl, by go_num, _, HT2⟩
          case measure => simp [intOf]; omega
      obtain ⟨a2, c2, rfl⟩ := HROW.out.val
      rw [hM.out] at hcell
      have b1 : ((m : Int) == 1) = false := by rw [beq_eq_false_iff_ne]; omega
      have b2 : ((m : Int) == 2) = false := by rw [beq_eq_false_iff_ne]; omega
      have b3 : ((m : Int) == 3) = false := by rw [beq_eq_false_iff_ne]; omega
      clear h1 h2 h3
      go_wp2_with fail
      refine wp_region_plan (Chg NoF _) 14 [(0,true),(1,true),(2,true),(3,true),(4,true),(5,true),(6,true),(7,true),(8,true),(9,true),(10,true),(11,true),(12,true),(13,true)] mixed (by kernel_rfl) (Chg.refl _ _).drew ?_
      simp only [planOps, List.map_cons, List.map_nil, List.getElem?_cons_zero, List.getElem?_cons_succ, Option.getD_some]
      generalize hops : List.toArray _ = ops
      iterate 4 (refine wpPlan_quiet (v := ?_) rfl (fun _ _ _ h => h) (by intro w1 hS; clear hS; go_simp; with_reducible rfl) ?_; (simp only [Act.put, List.setIfInBounds_toArray, List.set_cons_zero, List.set_cons_succ]))
      iterate 9 (refine wpPlan_skip (by rw [← hops]; rfl) (fun _ _ _ h => h) ?_; (simp only [Act.put, List.setIfInBounds_toArray, List.set_cons_zero, List.set_cons_succ]))
      (refine wpPlan_quiet (v := ?_) rfl (fun _ _ _ h => h) (by intro w1 hS; clear hS; go_simp; with_reducible rfl) ?_; (simp only [Act.put, List.setIfInBounds_toArray, List.set_cons_zero, List.set_cons_succ]))
      clear hops
      refine wpPlan_nil ?_
      go_wp2_with fail
      refine wp_region_plan (Chg NoF _) 14 [(0,true),(1,true),(2,true),(3,true),(4,true),(5,true),(6,true),(7,true),(8,true),(9,true),(10,true),(11,true),(12,true),(13,true)] mixed (by kernel_rfl) (Chg.refl _ _).drew ?_
      simp only [planOps, List.map_cons, List.map_nil, List.getElem?_cons_zero, List.getElem?_cons_succ, Option.getD_some]
      generalize hops : List.toArray _ = ops
      iterate 4 (refine wpPlan_quiet (v := ?_) rfl (fun _ _ _ h => h) (by intro w1 hS; clear hS; go_simp; with_reducible rfl) ?_; (simp only [Act.put, List.setIfInBounds_toArray, List.set_cons_zero, List.set_cons_succ]))
      iterate 9 (refine wpPlan_skip (by rw [← hops]; rfl) (fun _ _ _ h => h) ?_; (simp only [Act.put, List.setIfInBounds_toArray, List.set_cons_zero, List.set_cons_succ]))
      (refine wpPlan_quiet (v := ?_) rfl (fun _ _ _ h => h) (by intro w1 hS; clear hS; go_simp; with_reducible rfl) ?_; (simp only [Act.put, List.setIfInBounds_toArray, List.set_cons_zero, List.set_cons_succ]))
      clear hops
      refine wpPlan_nil ?_
      have HT2 := Lib.hid (HT.out.keep (((Chg.refl NoF _).drew).drew))
      go_wp2
      go_roundw
      case rel => exact ⟨j + 1, by omega, by omega, by go_num, gx, cx, rfl, by go_num, _, HT2⟩
      case measure => simp [intOf]; omega
    · have HREL2 : Hid (TRel w _ t g k s gx cx ∧ Rounds 0 s) := Lib.hid ⟨HT.out, rounds_start HT.out.1.1⟩
      have hb : ¬ (j : Int) < sl ∨ ((j : Int) < sl ∧ ¬ (j : Int) < 150) := by omega
      clear hlt hg0 hg20 hx0 hx40
      rcases hb with hb | ⟨hb1, hb2⟩
      all_goals
        go_wp2_with fail
        go_loopw [9, 12] (fun cm i wr => ∃ r : Nat, r ≤ 120 ∧ i = .int .i64 r ∧ ∃ cx : Int, cm = .int .i64 cx ∧ ∃ s, Hid (TRel w wr t g k s gx cx ∧ Rounds r s)) (fun _ i _ => 120 - (intOf i).toNat)
        case atStart => exact ⟨0, Nat.zero_le _, rfl, cx, rfl, s, HREL2⟩
        case round =>
          obtain ⟨r, hr120, rfl, cr, rfl, sr, HG⟩ := hrel
          by_cases hr : r < 120
          · obtain ⟨P, hP, hin0⟩ := rounds_in HG.out.2
            have HP := Lib.hid hP
            have HIN0 : Hid (TRel w _ t g k sr gx cr ∧ InRnd P (Tried 0 0) sr) := Lib.hid ⟨HG.out.1, hin0⟩
            have hr1 : (r : Int) < 120 := by omega
            clear hP hin0
            go_wp2_with fail
            go_loopw [9, 13] (fun cm i wr => ∃ p : Nat, p ≤ k ∧ i = .int .i64 p ∧ ∃ cx : Int, cm = .int .i64 cx ∧ ∃ s, Hid (TRel w wr t g k s gx cx ∧ InRnd P (Tried p 0) s)) (fun _ i _ => k - (intOf i).toNat)
            case atStart => exact ⟨0, Nat.zero_le _, rfl, cr, rfl, sr, HIN0⟩
            case round =>
              obtain ⟨p, hpk, rfl, cp, rfl, sp, HI⟩ := hrel
              by_cases hp : p < k
              · have hp1 : (p : Int) < k := by omega
                have HST := Lib.hid (stop_any _ _ t g sp HI.out.1.1.2.2.1 HI.out.1.1.1.sane p)
                go_wp2_with fail
                refine HST.out.mono ?_
                rintro e wc ⟨rfl, hin, hc⟩
                have HI2 : Hid (TRel w wc t g k (sp.stop p) gx cp ∧ InRnd P (Tried1 p 0) (sp.stop p)) := Lib.hid ⟨HI.out.1.stop hin hc, (HI.out.1.1.stopIn HI.out.2 p tried_stop hin hc).2⟩
                clear hin hc HST
                go_wp2_with fail
                go_loopw [9, 14] (fun cm i wr => ∃ q : Nat, q ≤ k ∧ i = .int .i64 q ∧ ∃ cx : Int, cm = .int .i64 cx ∧ ∃ s, Hid (TRel w wr t g k s gx cx ∧ InRnd P (Tried1 p q) s)) (fun _ i _ => k - (intOf i).toNat)
                case atStart => exact ⟨0, Nat.zero_le _, rfl, cp, rfl, _, HI2⟩
                case round =>
                  obtain ⟨q, hqk, rfl, cq, rfl, sq, HQ⟩ := hrel
                  by_cases hq : q < k
                  · have hq1 : (q : Int) < k := by omega
                    obtain ⟨hg0, hg20, hx0, hx40⟩ := HQ.out.1.bounds
                    have HST := Lib.hid (step_any _ _ t g sq HQ.out.1.1.2.2.1 HQ.out.1.1.1.sane p q)
                    by_cases he : sq.stepErr p q = 0
                    · rw [he] at HST
                      have HE := Lib.hid he
                      clear he
                      go_wp2_with fail
                      refine HST.out.mono ?_
                      rintro e wd ⟨rfl, hin, hc⟩
                      rw [show errV 0 = .nilIface from rfl]
                      have HQ2 : Hid (TRel w wd t g k (sq.step p q) gx (cq + 1) ∧ InRnd P (Tried1 p (q + 1)) (sq.step p q)) := Lib.hid ⟨HQ.out.1.step0 HE.out hin hc, (HQ.out.1.1.stepIn HQ.out.2 p q tried_step hin hc).2⟩
                      clear hin hc HST
                      go_wp2
                      go_roundw
                      case rel => exact ⟨q + 1, by omega, by go_num, cq + 1, by go_num, _, HQ2⟩
                      case measure => simp [intOf]; omega
                    · obtain ⟨ec, hEC⟩ : ∃ ec, Hid (sq.stepErr p q = ec) := ⟨_, Lib.hid rfl⟩
                      have HE := Lib.hid he
                      rw [hEC.out] at HST he
                      have HNE := Lib.hid he
                      clear he
                      go_wp2_with fail
                      refine HST.out.mono ?_
                      rintro e wd ⟨rfl, hin, hc⟩
                      rw [show errV ec = .iface 40 (.int .i64 ec) by unfold errV; rw [if_neg HNE.out]]
                      have HQ2 : Hid (TRel w wd t g k (sq.step p q) gx cq ∧ InRnd P (Tried1 p (q + 1)) (sq.step p q)) := Lib.hid ⟨HQ.out.1.stepN HE.out hin hc, (HQ.out.1.1.stepIn HQ.out.2 p q tried_step hin hc).2⟩
                      clear hin hc HST
                      go_wp2
                      go_roundw
                      case rel => exact ⟨q + 1, by omega, by go_num, cq, rfl, _, HQ2⟩
                      case measure => simp [intOf]; omega
                  · have hq1 : ¬ (q : Int) < k := by omega
                    have HI3 : Hid (TRel w _ t g k sq gx cq ∧ InRnd P (Tried (p + 1) 0) sq) := Lib.hid ⟨HQ.out.1, HQ.out.2.mono fun h => tried_row (by rw [HQ.out.1.1.2.1, show k = q by omega]; exact h)⟩
                    go_wp2
                    go_roundw
                    case rel => exact ⟨p + 1, by omega, by go_num, cq, rfl, _, HI3⟩
                    case measure => simp [intOf]; omega
              · have hp1 : ¬ (p : Int) < k := by omega
                have HG2 : Hid (TRel w _ t g k sp gx cp ∧ Rounds (r + 1) sp) := Lib.hid ⟨HI.out.1, rounds_next HI.out.1.1.1 HP.out (HI.out.2.mono fun h => by rw [HI.out.1.1.2.1, show k = p by omega]; exact h)⟩
                go_wp2
                go_roundw
                case rel => exact ⟨r + 1, by omega, by go_num, cp, rfl, _, HG2⟩
                case measure => simp [intOf]; omega
          · have hr1 : ¬ (r : Int) < 120 := by omega
            have hst := rounds_end HG.out.1.1.1 HG.out.2 (by omega)
            obtain ⟨hcl, how, hpa, hps⟩ := HG.out.1.1.1.inv.still hst.1 hst.2
            have HOW : Hid (∀ p, p < k → sr.nodeOwed p = 0 ∧ (p ≠ 0 → sr.nodeAt p = -1)) := Lib.hid fun p hp => by
              have hp' : p < sr.n := by rw [HG.out.1.1.2.1]; exact hp
              have hip : sr.is p = true := (sr.is_iff p).2 ⟨p, rfl, hp'⟩
              refine ⟨?_, fun h0 => ?_⟩
              · unfold CNet.nodeOwed; rw [if_pos hip, Int.toNat_natCast]; exact how p hp'
              · unfold CNet.nodeAt; rw [if_pos hip, Int.toNat_natCast]; exact hpa p hp' h0
            have HCG : Hid (cr = 2 * gx) := Lib.hid (by have := HG.out.1.2.1; omega)
            have HCL := Lib.hid hcl
            obtain ⟨hg0, hg20, hx0, hx40⟩ := HG.out.1.bounds
            have HREL3 := Lib.hid HG.out.1
            clear hst hcl how hpa hps
            go_wp2_with fail
            go_loopw [15] (fun i wr => ∃ p : Nat, p ≤ k ∧ i = .int .i64 p ∧ Hid (TRel w wr t g k sr gx cr)) (fun i _ => k - (intOf i).toNat)
            case atStart => exact ⟨0, Nat.zero_le _, rfl, HREL3⟩
            case round =>
              obtain ⟨p, hpk, rfl, HZ⟩ := hrel
              by_cases hp : p < k
              · have hp1 : (p : Int) < k := by omega
                have HN := Lib.hid (node_any _ _ t g sr HZ.out.1.2.2.1 HZ.out.1.1.inv.n1 p)
                rw [(HOW.out p hp).1] at HN
                by_cases h0 : p = 0
                · have h01 : ¬ (0 : Int) < p := by omega
                  clear h0
                  go_wp2_with fail
                  refine HN.out.mono ?_
                  rintro e w' ⟨rfl, hc⟩
                  have HZ2 := Lib.hid (HZ.out.keep hc)
                  clear hc HN
                  go_wp2
                  go_roundw
                  case rel => exact ⟨p + 1, by omega, by go_num, HZ2⟩
                  case measure => simp [intOf]; omega
                · have h01 : (0 : Int) < p := by omega
                  rw [(HOW.out p hp).2 h0] at HN
                  clear h0
                  go_wp2_with fail
                  refine HN.out.mono ?_
                  rintro e w' ⟨rfl, hc⟩
                  have HZ2 := Lib.hid (HZ.out.keep hc)
                  clear hc HN
                  go_wp2
                  go_roundw
                  case rel => exact ⟨p + 1, by omega, by go_num, HZ2⟩
                  case measure => simp [intOf]; omega
              · have hp1 : ¬ (p : Int) < k := by omega
                have HCA := Lib.hid (calm_any _ _ t g sr HZ.out.1.2.2.1)
                rw [HCL.out] at HCA
                have hcb : (cr == 2 * gx) = true := by rw [HCG.out]; simp
                have hw1 : wrap64 (2 * gx) = 2 * gx := IntWalk.wrap64_in _ (by omega)
                go_wp2_with fail
                refine HCA.out.mono ?_
                rintro e w' ⟨rfl, rfl⟩
                go_wp2
                go_ret
                exact ⟨rfl, HZ.out.1.2.2.2⟩

end Go.Proofs.Ytbckjmbhipofaaa
