/-
  The walk of TokenMany: one message for each other one, and none for who has the token: when all that is on all ways came.
  Conditions: the steps are read as lists of integers.
-/
import Derived.Test.YtbcekojnphjcmaaToI
namespace Go.Proofs.Ytbcekojnphjcmaa
open Go Go.RowKit

/-- What the law knows: how many asked (that had not the token), and how many messages came. -/
def MRel (w wr : World) (t g n : Nat) (s : TNet) (asks came : Int) : Prop := TRel w wr t g n s ∧ came + msgs s = ((n : Int) - 1) * asks ∧ 0 ≤ asks ∧ 0 ≤ came

theorem MRel.came {w wr : World} {t g n : Nat} {s : TNet} {asks came : Int} (h : MRel w wr t g n s asks came) (ha : asks ≤ 150) : came ≤ 450 := by
  obtain ⟨h1, h2, h3, h4⟩ := h
  have h5 := msgs_nonneg s
  have h6 : ((n : Int) - 1) * asks ≤ 3 * 150 := by
    have hn := h1.1.n4
    have hn1 := h1.1.n1
    rw [h1.2.1] at hn hn1
    exact Int.le_trans (Int.mul_le_mul_of_nonneg_right (show ((n : Int) - 1) ≤ 3 by omega) h3) (Int.mul_le_mul_of_nonneg_left ha (by omega))
  omega

/-- The account of a step: who did it, and what the law counted for it. -/
theorem MRel.ask1 {w wr wr' : World} {t g n : Nat} {s : TNet} {asks came : Int} (h : MRel w wr t g n s asks came) (hk : kst s ≤ 290) {p : Int} (he : s.askErr p = 0) (hp : s.holder ≠ p) (hin : TIn (fun b => b < w.heap.size) wr' t g (s.ask p)) (hc : Chg (NewB w) wr wr') : MRel w wr' t g n (s.ask p) (asks + 1) came ∧ kst (s.ask p) ≤ kst s + 1 := by
  obtain ⟨h1, h2, h3, h4⟩ := h
  have h5 := ((h1.1.askD p).2.2.1 he).2
  rw [if_neg hp] at h5
  have h6 := h1.ask hk p hin hc
  refine ⟨⟨h6.1, ?_, by omega, h4⟩, h6.2⟩
  rw [h5, h1.2.1, Int.mul_add]; omega
theorem MRel.askH {w wr wr' : World} {t g n : Nat} {s : TNet} {asks came : Int} (h : MRel w wr t g n s asks came) (hk : kst s ≤ 290) {p : Int} (hp : s.askErr p = 0 → s.holder = p) (hin : TIn (fun b => b < w.heap.size) wr' t g (s.ask p)) (hc : Chg (NewB w) wr wr') : MRel w wr' t g n (s.ask p) asks came ∧ kst (s.ask p) ≤ kst s + 1 := by
  obtain ⟨h1, h2, h3, h4⟩ := h
  have h6 := h1.ask hk p hin hc
  refine ⟨⟨h6.1, ?_, h3, h4⟩, h6.2⟩
  by_cases he : s.askErr p = 0
  · have h5 := ((h1.1.askD p).2.2.1 he).2
    rw [if_pos (hp he)] at h5
    rw [h5]; omega
  · rw [(h1.1.askD p).2.2.2 he]; exact h2
theorem MRel.leave {w wr wr' : World} {t g n : Nat} {s : TNet} {asks came : Int} (h : MRel w wr t g n s asks came) {p : Int} (hin : TIn (fun b => b < w.heap.size) wr' t g (s.leave p)) (hc : Chg (NewB w) wr wr') : MRel w wr' t g n (s.leave p) asks came ∧ kst (s.leave p) ≤ kst s + 1 := by
  have e := (h.1.1.leaveD p).2.2.1
  refine ⟨⟨(h.1.leave p hin hc).1, ?_, h.2.2⟩, (h.1.leave p hin hc).2⟩
  rw [e]; exact h.2.1
theorem MRel.bring {w wr wr' : World} {t g n : Nat} {s : TNet} {asks came : Int} (h : MRel w wr t g n s asks came) (hin : TIn (fun b => b < w.heap.size) wr' t g s.bring) (hc : Chg (NewB w) wr wr') : MRel w wr' t g n s.bring asks came ∧ kst s.bring ≤ kst s + 1 := by
  have e := h.1.1.bringD.2.2.1
  refine ⟨⟨(h.1.bring hin hc).1, ?_, h.2.2⟩, (h.1.bring hin hc).2⟩
  rw [e]; exact h.2.1
theorem MRel.step0 {w wr wr' : World} {t g n : Nat} {s : TNet} {asks came : Int} (h : MRel w wr t g n s asks came) {p q : Int} (he : s.stepErr p q = 0) (hin : TIn (fun b => b < w.heap.size) wr' t g (s.step p q)) (hc : Chg (NewB w) wr wr') : MRel w wr' t g n (s.step p q) asks (came + 1) ∧ kst (s.step p q) ≤ kst s + 1 := by
  have e := ((h.1.1.stepD p q).2.2.1 he).1
  obtain ⟨h1, h2, h3, h4⟩ := h
  exact ⟨⟨(h1.step p q hin hc).1, by rw [e]; omega, h3, by omega⟩, (h1.step p q hin hc).2⟩
theorem MRel.stepN {w wr wr' : World} {t g n : Nat} {s : TNet} {asks came : Int} (h : MRel w wr t g n s asks came) {p q : Int} (he : s.stepErr p q ≠ 0) (hin : TIn (fun b => b < w.heap.size) wr' t g (s.step p q)) (hc : Chg (NewB w) wr wr') : MRel w wr' t g n (s.step p q) asks came ∧ kst (s.step p q) ≤ kst s + 1 := by
  have e := (h.1.1.stepD p q).2.2.2 he
  refine ⟨⟨(h.1.step p q hin hc).1, ?_, h.2.2⟩, (h.1.step p q hin hc).2⟩
  rw [e]; exact h.2.1
theorem MRel.keep {w wr wr' : World} {t g n : Nat} {s : TNet} {asks came : Int} (h : MRel w wr t g n s asks came) (hc : Chg NoF wr wr') : MRel w wr' t g n s asks came := ⟨h.1.keep hc, h.2⟩

/-- What `does` does in TokenMany: whoever leaves, or that the token is brought. -/
theorem MRel.act {w wr wr' : World} {t g n : Nat} {s : TNet} {asks came : Int} (h : MRel w wr t g n s asks came) {l : List Int} (h3 : l.length ≠ 3) (h2 : l.length = 2 → l.getD 1 0 ≠ 0) (hin : TIn (fun b => b < w.heap.size) wr' t g (s.act l)) (hc : Chg (NewB w) wr wr') : MRel w wr' t g n (s.act l) asks came ∧ kst (s.act l) ≤ kst s + 1 := by
  unfold TNet.act at hin ⊢
  by_cases e2 : l.length = 2
  · rw [if_pos e2, if_neg (h2 e2)] at hin ⊢
    exact h.leave hin hc
  rw [if_neg e2, if_neg h3] at hin ⊢
  by_cases e1 : l.length = 1
  · rw [if_pos e1] at hin ⊢
    exact h.bring hin hc
  rw [if_neg e1] at hin ⊢
  exact ⟨⟨⟨h.1.1, h.1.2.1, h.1.2.2.1, hin, h.1.2.2.2.2.trans hc⟩, h.2⟩, by omega⟩

set_option maxHeartbeats 8000000 in
set_option maxRecDepth 100000 in
theorem many_walk (n : Int) (v : Value) (ll : List (List Int)) (w : World) (hr : Rd2 (fun k => k < w.heap.size) w v ll) (hlb : ll.length ≤ 9223372036854775807) :
    Calls Try.prog 5 #[.int .i64 n, v] w fun e w' => e = .returned (.bool true) ∧ Chg (NewB w) w w' := by
  have HR := Lib.hid hr
  clear hr
  go_enter Try.func5, Try.ntmps5
  go_wp2_with fail
  refine (tokenFact_any w).mono ?_
  rintro e w1 ⟨rfl, hc1⟩
  go_wp2_with fail
  refine (new_any n w1).mono ?_
  rintro e w2 ⟨hc2, hnew⟩
  have HC1 := Lib.hid hc1
  have HC2 := Lib.hid hc2
  clear hc1 hc2
  rcases hnew with ⟨hbad, rfl⟩ | ⟨k, rfl, hk1, hk4, t, g, rfl, hin⟩
  · have hb : decide (n < 1) = true ∨ (decide (n < 1) = false ∧ decide (4 < n) = true) := by
      rcases Bool.and_eq_false_iff.1 hbad with h | h
      · left; rw [decide_eq_true_eq]; have := of_decide_eq_false h; omega
      · by_cases h1 : n < 1
        · left; rw [decide_eq_true_eq]; exact h1
        · right; rw [decide_eq_true_eq, decide_eq_false_iff_not]; have := of_decide_eq_false h; omega
    rw [show errV 1 = .iface 47 (.int .i64 1) from rfl]
    clear hbad
    rcases hb with hb | ⟨hb1, hb2⟩
    · go_wp2
      go_ret
      exact ⟨rfl, (HC1.out.trans HC2.out).ofNo⟩
    · go_wp2
      go_ret
      exact ⟨rfl, (HC1.out.trans HC2.out).ofNo⟩
  have HREL : Hid (MRel w w2 t g k (TNet.init k) 0 0 ∧ kst (TNet.init k) ≤ 8) := Lib.hid ⟨⟨TRel.start hk1 hk4 HC1.out HC2.out hin, by rw [(start_pots hk4).1]; simp, Int.le_refl _, Int.le_refl _⟩, (start_pots hk4).2⟩
  clear hin
  obtain ⟨pv, cv, rfl⟩ := HR.out.val
  obtain ⟨sl, hSL⟩ : ∃ sl, Hid (ll.length = sl) := ⟨_, Lib.hid rfl⟩
  rw [hSL.out] at hlb HR ⊢
  go_wp2_with fail
  go_loopw [8, 9, 10] (fun gv cm i wr => ∃ j : Nat, j ≤ sl ∧ j ≤ 150 ∧ i = .int .i64 j ∧ ∃ gx cx : Int, gv = .int .i64 gx ∧ cm = .int .i64 cx ∧ gx ≤ j ∧ ∃ s, Hid (MRel w wr t g k s gx cx ∧ kst s ≤ 8 + j)) (fun _ _ i _ => 150 - (intOf i).toNat)
  case atStart => exact ⟨0, Nat.zero_le _, Nat.zero_le _, rfl, 0, 0, rfl, rfl, Int.le_refl _, _, HREL⟩
  case round =>
    obtain ⟨j, hjsl, hj150, rfl, gx, cx, rfl, rfl, hgj, s, HT⟩ := hrel
    have hg0 := HT.out.1.2.2.1
    have hx0 := HT.out.1.2.2.2
    have hx9 := HT.out.1.came (by omega)
    by_cases hlt : j < sl ∧ j < 150
    · obtain ⟨hlt1, hlt2⟩ := hlt
      obtain ⟨b, off, c, u, e1, hcell, hrow, hrl⟩ := HR.out.at HT.out.1.1.2.2.2.2 (fun b hb hn => hn hb) (j := j) (by rw [hSL.out]; exact hlt1)
      simp only [Value.slice.injEq] at e1
      obtain ⟨rfl, -, rfl⟩ := e1
      have hj1 : (j : Int) < sl := by omega
      have hj2 : (j : Int) < 150 := by omega
      obtain ⟨l, HL⟩ : ∃ l, Hid (ll.getD j [] = l) := ⟨_, Lib.hid rfl⟩
      rw [HL.out] at hrow hrl
      obtain ⟨m, hM⟩ : ∃ m, Hid (l.length = m) := ⟨_, Lib.hid rfl⟩
      rw [hM.out] at hrl
      have HROW := Lib.hid hrow
      have HK : Hid (kst s ≤ 290) := Lib.hid (by have := HT.out.2; omega)
      clear hrow
      by_cases h2 : m = 2
      · subst h2
        obtain ⟨b2, off2, c2, hb2, hbS, hc⟩ := HROW.out.form (by rw [hM.out]; omega)
        rw [hM.out] at hc hb2
        have d0 := hc 0 (by omega)
        have d1 := hc 1 (by omega)
        obtain ⟨x, hX⟩ : ∃ x, Hid (l.getD 0 0 = x) := ⟨_, Lib.hid rfl⟩
        obtain ⟨y, hY⟩ : ∃ y, Hid (l.getD 1 0 = y) := ⟨_, Lib.hid rfl⟩
        rw [hX.out, Nat.add_zero] at d0
        rw [hY.out] at d1
        clear hc hrl
        by_cases hy : y = 0
        · subst hb2
          have hy1 : (y == 0) = true := by rw [hy]; rfl
          clear hy
          have hql : s.queue.length < 1000 := Nat.lt_trans HT.out.1.1.sane.que (by omega)
          have HTK := Lib.hid (token_any _ _ t g s HT.out.1.1.2.2.2.1 hql)
          obtain ⟨ho, HHO⟩ : ∃ x, Hid (s.holder = x) := ⟨_, Lib.hid rfl⟩
          obtain ⟨tg, HTG⟩ : ∃ x, Hid (s.targetOf = x) := ⟨_, Lib.hid rfl⟩
          rw [HHO.out, HTG.out] at HTK
          clear hql
          go_wp2_with fail
          refine HTK.out.mono ?_
          rintro e w1 ⟨qv, rfl, _, hcc⟩
          have HT1 : Hid (MRel w w1 t g k s gx cx) := Lib.hid (HT.out.1.keep hcc)
          have HG := Lib.hid (ask_any _ _ t g s HT1.out.1.2.2.2.1 HT1.out.1.sane x)
          replace d0 := hcc.cell_some d0 (fun hn => hn)
          replace d1 := hcc.cell_some d1 (fun hn => hn)
          clear hcc HTK
          by_cases he : s.askErr x = 0
          · rw [he] at HG
            by_cases hho : ho = x
            · have hhe : (ho != x) = false := by rw [bne_eq_false_iff_eq]; exact hho
              have HW : Hid (s.askErr x = 0 → s.holder = x) := Lib.hid (fun _ => HHO.out.trans hho)
              clear he hho
              go_wp2_with fail
              refine HG.out.mono ?_
              rintro e w2 ⟨rfl, hin, hcc⟩
              rw [show errV 0 = .nilIface from rfl]
              have HT2 : Hid (MRel w w2 t g k (s.ask x) gx cx ∧ kst (s.ask x) ≤ 8 + ((j + 1 : Nat) : Int)) := Lib.hid (by
                have h1 := HT1.out.askH HK.out HW.out hin hcc
                exact ⟨h1.1, by have := h1.2; have := HT.out.2; push_cast; omega⟩)
              have hcc : Chg (NewB w) _ w2 := hcc
              replace d0 := hcc.cell_some d0 (fun hn => hn hbS)
              replace d1 := hcc.cell_some d1 (fun hn => hn hbS)
              clear hin hcc HG
              go_wp2
              go_roundw
              case rel => exact ⟨j + 1, by omega, by omega, by go_num, gx, cx, rfl, rfl, by omega, _, HT2⟩
              case measure => simp [intOf]; omega
            · have hhe : (ho != x) = true := by rw [bne_iff_ne]; exact hho
              have HE := Lib.hid he
              have HHN : Hid (s.holder ≠ x) := Lib.hid (by rw [HHO.out]; exact hho)
              clear he hho
              go_wp2_with fail
              refine HG.out.mono ?_
              rintro e w2 ⟨rfl, hin, hcc⟩
              rw [show errV 0 = .nilIface from rfl]
              have HT2 : Hid (MRel w w2 t g k (s.ask x) (gx + 1) cx ∧ kst (s.ask x) ≤ 8 + ((j + 1 : Nat) : Int)) := Lib.hid (by
                have h1 := HT1.out.ask1 HK.out HE.out HHN.out hin hcc
                exact ⟨h1.1, by have := h1.2; have := HT.out.2; push_cast; omega⟩)
              have hcc : Chg (NewB w) _ w2 := hcc
              replace d0 := hcc.cell_some d0 (fun hn => hn hbS)
              replace d1 := hcc.cell_some d1 (fun hn => hn hbS)
              clear hin hcc HG
              go_wp2
              go_roundw
              case rel => exact ⟨j + 1, by omega, by omega, by go_num, gx + 1, cx, by go_num, rfl, by omega, _, HT2⟩
              case measure => simp [intOf]; omega
          · obtain ⟨ec, hEC⟩ : ∃ ec, Hid (s.askErr x = ec) := ⟨_, Lib.hid rfl⟩
            have HW : Hid (s.askErr x = 0 → s.holder = x) := Lib.hid (fun h => absurd h he)
            rw [hEC.out] at HG he
            have HNE := Lib.hid he
            clear he
            go_wp2_with fail
            refine HG.out.mono ?_
            rintro e w2 ⟨rfl, hin, hcc⟩
            rw [show errV ec = .iface 47 (.int .i64 ec) by unfold errV; rw [if_neg HNE.out]]
            have HT2 : Hid (MRel w w2 t g k (s.ask x) gx cx ∧ kst (s.ask x) ≤ 8 + ((j + 1 : Nat) : Int)) := Lib.hid (by
              have h1 := HT1.out.askH HK.out HW.out hin hcc
              exact ⟨h1.1, by have := h1.2; have := HT.out.2; push_cast; omega⟩)
            have hcc : Chg (NewB w) _ w2 := hcc
            replace d0 := hcc.cell_some d0 (fun hn => hn hbS)
            replace d1 := hcc.cell_some d1 (fun hn => hn hbS)
            clear hin hcc HG
            go_wp2
            go_roundw
            case rel => exact ⟨j + 1, by omega, by omega, by go_num, gx, cx, rfl, rfl, by omega, _, HT2⟩
            case measure => simp [intOf]; omega
        · have hy1 : (y == 0) = false := by rw [beq_eq_false_iff_ne]; exact hy
          have HG := Lib.hid (does_any _ _ t g s HT.out.1.1.2.2.2.1 HT.out.1.1.sane (fun b hb => Nat.lt_of_lt_of_le hb HT.out.1.1.2.2.2.2.size) _ _ HROW.out)
          have HA : Hid (l.length ≠ 3 ∧ (l.length = 2 → l.getD 1 0 ≠ 0)) := Lib.hid ⟨by rw [hM.out]; omega, fun _ => by rw [hY.out]; exact hy⟩
          subst hb2
          clear hy
          go_wp2_with fail
          refine HG.out.mono ?_
          rintro e w1 ⟨rfl, hin, hcc⟩
          have HT2 : Hid (MRel w w1 t g k (s.act l) gx cx ∧ kst (s.act l) ≤ 8 + ((j + 1 : Nat) : Int)) := Lib.hid (by
            have h1 := HT.out.1.act HA.out.1 HA.out.2 hin hcc
            exact ⟨h1.1, by have := h1.2; have := HT.out.2; push_cast; omega⟩)
          clear hin hcc HG d0 d1
          go_wp2
          go_roundw
          case rel => exact ⟨j + 1, by omega, by omega, by go_num, gx, cx, rfl, rfl, by omega, _, HT2⟩
          case measure => simp [intOf]; omega
      by_cases h3 : m = 3
      · subst h3
        obtain ⟨b2, off2, c2, rfl, hbS, hc⟩ := HROW.out.form (by rw [hM.out]; omega)
        rw [hM.out] at hc hcell
        have d0 := hc 0 (by omega)
        have d1 := hc 1 (by omega)
        obtain ⟨x, hX⟩ : ∃ x, Hid (l.getD 0 0 = x) := ⟨_, Lib.hid rfl⟩
        obtain ⟨y, hY⟩ : ∃ y, Hid (l.getD 1 0 = y) := ⟨_, Lib.hid rfl⟩
        rw [hX.out, Nat.add_zero] at d0
        rw [hY.out] at d1
        clear hc hrl
        have HG := Lib.hid (step_any _ _ t g s (HT.out.1.1.2.2.2.1.keep ((Chg.refl NoF _).drew)) HT.out.1.1.sane x y)
        clear h2
        by_cases he : s.stepErr x y = 0
        · rw [he] at HG
          have HE := Lib.hid he
          clear he
          go_wp2_with fail
          refine wp_region_plan (Chg (NewB w) _) 9 [(0,true),(1,true),(2,true),(3,true),(4,true),(5,true),(6,true),(7,false),(8,true)] mixed (by kernel_rfl) (Chg.refl _ _).drew ?_
          simp only [planOps, List.map_cons, List.map_nil, List.getElem?_cons_zero, List.getElem?_cons_succ, Option.getD_some]
          generalize hops : List.toArray _ = ops
          iterate 7 (refine wpPlan_quietG (v := ?_) (by rw [← hops]; rfl) (fun _ _ _ h => h) (by intro w1 hS; have s0 := hS.cell_some d0 (fun hn => hn hbS); have s1 := hS.cell_some d1 (fun hn => hn hbS); clear hS; go_simp; with_reducible rfl) ?_; (simp only [Act.put, List.setIfInBounds_toArray, List.set_cons_zero, List.set_cons_succ]))
          refine wpPlan_loudG (by rw [← hops]; rfl) (fun K hK => ?_)
          go_simp
          refine HG.out.mono ?_
          rintro e w1 ⟨rfl, hin, hcc⟩
          have hcc' : Chg (NewB w) _ w1 := ((Chg.refl (NewB w) _).drew).trans hcc
          rw [show errV 0 = .nilIface from rfl]
          refine hK _ _ (fun _ => hcc') ?_
          clear hK K
          (try simp only [Act.put, List.setIfInBounds_toArray, List.set_cons_zero, List.set_cons_succ])
          (refine wpPlan_quietG (v := ?_) (by rw [← hops]; rfl) (fun _ _ _ h => h) (by intro w1 hS; clear hS; go_simp; with_reducible rfl) ?_; (simp only [Act.put, List.setIfInBounds_toArray, List.set_cons_zero, List.set_cons_succ]))
          clear hops
          refine wpPlan_nil ?_
          have HT2 : Hid (MRel w w1 t g k (s.step x y) gx (cx + 1) ∧ kst (s.step x y) ≤ 8 + ((j + 1 : Nat) : Int)) := Lib.hid (by
            have h1 := HT.out.1.step0 HE.out hin hcc'
            exact ⟨h1.1, by have := h1.2; have := HT.out.2; push_cast; omega⟩)
          clear hin hcc hcc' HG
          go_wp2
          go_roundw
          case rel => exact ⟨j + 1, by omega, by omega, by go_num, gx, cx + 1, rfl, by go_num, by omega, _, HT2⟩
          case measure => simp [intOf]; omega
        · obtain ⟨ec, hEC⟩ : ∃ ec, Hid (s.stepErr x y = ec) := ⟨_, Lib.hid rfl⟩
          have HE := Lib.hid he
          rw [hEC.out] at HG he
          have HNE := Lib.hid he
          clear he
          go_wp2_with fail
          refine wp_region_plan (Chg (NewB w) _) 9 [(0,true),(1,true),(2,true),(3,true),(4,true),(5,true),(6,true),(7,false),(8,true)] mixed (by kernel_rfl) (Chg.refl _ _).drew ?_
          simp only [planOps, List.map_cons, List.map_nil, List.getElem?_cons_zero, List.getElem?_cons_succ, Option.getD_some]
          generalize hops : List.toArray _ = ops
          iterate 7 (refine wpPlan_quietG (v := ?_) (by rw [← hops]; rfl) (fun _ _ _ h => h) (by intro w1 hS; have s0 := hS.cell_some d0 (fun hn => hn hbS); have s1 := hS.cell_some d1 (fun hn => hn hbS); clear hS; go_simp; with_reducible rfl) ?_; (simp only [Act.put, List.setIfInBounds_toArray, List.set_cons_zero, List.set_cons_succ]))
          refine wpPlan_loudG (by rw [← hops]; rfl) (fun K hK => ?_)
          go_simp
          refine HG.out.mono ?_
          rintro e w1 ⟨rfl, hin, hcc⟩
          have hcc' : Chg (NewB w) _ w1 := ((Chg.refl (NewB w) _).drew).trans hcc
          rw [show errV ec = .iface 47 (.int .i64 ec) by unfold errV; rw [if_neg HNE.out]]
          refine hK _ _ (fun _ => hcc') ?_
          clear hK K
          (try simp only [Act.put, List.setIfInBounds_toArray, List.set_cons_zero, List.set_cons_succ])
          (refine wpPlan_quietG (v := ?_) (by rw [← hops]; rfl) (fun _ _ _ h => h) (by intro w1 hS; clear hS; go_simp; with_reducible rfl) ?_; (simp only [Act.put, List.setIfInBounds_toArray, List.set_cons_zero, List.set_cons_succ]))
          clear hops
          refine wpPlan_nil ?_
          have HT2 : Hid (MRel w w1 t g k (s.step x y) gx cx ∧ kst (s.step x y) ≤ 8 + ((j + 1 : Nat) : Int)) := Lib.hid (by
            have h1 := HT.out.1.stepN HE.out hin hcc'
            exact ⟨h1.1, by have := h1.2; have := HT.out.2; push_cast; omega⟩)
          clear hin hcc hcc' HG
          go_wp2
          go_roundw
          case rel => exact ⟨j + 1, by omega, by omega, by go_num, gx, cx, rfl, rfl, by omega, _, HT2⟩
          case measure => simp [intOf]; omega
      have HG := Lib.hid (does_any _ _ t g s HT.out.1.1.2.2.2.1 HT.out.1.1.sane (fun b hb => Nat.lt_of_lt_of_le hb HT.out.1.1.2.2.2.2.size) _ _ HROW.out)
      have HA : Hid (l.length ≠ 3 ∧ (l.length = 2 → l.getD 1 0 ≠ 0)) := Lib.hid ⟨by rw [hM.out]; exact h3, fun h => absurd (hM.out.symm.trans h) h2⟩
      obtain ⟨a2, c2, rfl⟩ := HROW.out.val
      rw [hM.out] at hcell HG
      have b2 : ((m : Int) == 2) = false := by rw [beq_eq_false_iff_ne]; omega
      have b3 : ((m : Int) == 3) = false := by rw [beq_eq_false_iff_ne]; omega
      clear h2 h3
      go_wp2_with fail
      refine HG.out.mono ?_
      rintro e w1 ⟨rfl, hin, hcc⟩
      have HT2 : Hid (MRel w w1 t g k (s.act l) gx cx ∧ kst (s.act l) ≤ 8 + ((j + 1 : Nat) : Int)) := Lib.hid (by
        have h1 := HT.out.1.act HA.out.1 HA.out.2 hin hcc
        exact ⟨h1.1, by have := h1.2; have := HT.out.2; push_cast; omega⟩)
      clear hin hcc HG
      go_wp2
      go_roundw
      case rel => exact ⟨j + 1, by omega, by omega, by go_num, gx, cx, rfl, rfl, by omega, _, HT2⟩
      case measure => simp [intOf]; omega
    · have HREL2 : Hid (MRel w _ t g k s gx cx ∧ Rounds 0 s) := Lib.hid ⟨HT.out.1, rounds_start HT.out.1.1.1.n4 (by have := HT.out.2; omega)⟩
      have hg150 : gx ≤ 150 := by omega
      have hb : ¬ (j : Int) < sl ∨ ((j : Int) < sl ∧ ¬ (j : Int) < 150) := by omega
      clear hlt hx0 hx9
      rcases hb with hb | ⟨hb1, hb2⟩
      all_goals
        go_wp2_with fail
        go_loopw [9, 15] (fun cm i wr => ∃ r : Nat, r ≤ 170 ∧ i = .int .i64 r ∧ ∃ cx : Int, cm = .int .i64 cx ∧ ∃ s, Hid (MRel w wr t g k s gx cx ∧ Rounds r s)) (fun _ i _ => 170 - (intOf i).toNat)
        case atStart => exact ⟨0, Nat.zero_le _, rfl, cx, rfl, s, HREL2⟩
        case round =>
          obtain ⟨r, hr170, rfl, cr, rfl, sr, HG⟩ := hrel
          by_cases hr : r < 170
          · obtain ⟨P, hP, hin0⟩ := rounds_in HG.out.2
            have HP := Lib.hid hP
            have HIN : Hid (MRel w _ t g k sr gx cr ∧ InRnd P (fun _ => True) sr) := Lib.hid ⟨HG.out.1, hin0⟩
            have hr1 : (r : Int) < 170 := by omega
            clear hP hin0
            have HB := Lib.hid (bring_any _ _ t g sr HIN.out.1.1.2.2.2.1 HIN.out.1.1.sane)
            go_wp2_with fail
            refine HB.out.mono ?_
            rintro e wb ⟨rfl, hin, hc⟩
            have HIN0 : Hid (MRel w wb t g k sr.bring gx cr ∧ InRnd P (Tried 0 0) sr.bring) := Lib.hid ⟨(HIN.out.1.bring hin hc).1, HIN.out.2.bring HIN.out.1.1.1 tried_bring⟩
            clear hin hc HB
            go_wp2_with fail
            go_loopw [9, 16] (fun cm i wr => ∃ p : Nat, p ≤ k ∧ i = .int .i64 p ∧ ∃ cx : Int, cm = .int .i64 cx ∧ ∃ s, Hid (MRel w wr t g k s gx cx ∧ InRnd P (Tried p 0) s)) (fun _ i _ => k - (intOf i).toNat)
            case atStart => exact ⟨0, Nat.zero_le _, rfl, cr, rfl, _, HIN0⟩
            case round =>
              obtain ⟨p, hpk, rfl, cp, rfl, sp, HI⟩ := hrel
              by_cases hp : p < k
              · have hp1 : (p : Int) < k := by omega
                have HST := Lib.hid (leave_any _ _ t g sp HI.out.1.1.2.2.2.1 HI.out.1.1.sane p)
                go_wp2_with fail
                refine HST.out.mono ?_
                rintro e wc ⟨rfl, hin, hc⟩
                have HI2 : Hid (MRel w wc t g k (sp.leave p) gx cp ∧ InRnd P (Tried1 p 0) (sp.leave p)) := Lib.hid ⟨(HI.out.1.leave hin hc).1, HI.out.2.leave HI.out.1.1.1 p tried_stop⟩
                clear hin hc HST
                go_wp2_with fail
                go_loopw [9, 17] (fun cm i wr => ∃ q : Nat, q ≤ k ∧ i = .int .i64 q ∧ ∃ cx : Int, cm = .int .i64 cx ∧ ∃ s, Hid (MRel w wr t g k s gx cx ∧ InRnd P (Tried1 p q) s)) (fun _ i _ => k - (intOf i).toNat)
                case atStart => exact ⟨0, Nat.zero_le _, rfl, cp, rfl, _, HI2⟩
                case round =>
                  obtain ⟨q, hqk, rfl, cq, rfl, sq, HQ⟩ := hrel
                  by_cases hq : q < k
                  · have hq1 : (q : Int) < k := by omega
                    have hx0 := HQ.out.1.2.2.2
                    have hx9 := HQ.out.1.came hg150
                    have HST := Lib.hid (step_any _ _ t g sq HQ.out.1.1.2.2.2.1 HQ.out.1.1.sane p q)
                    by_cases he : sq.stepErr p q = 0
                    · rw [he] at HST
                      have HE := Lib.hid he
                      clear he
                      go_wp2_with fail
                      refine HST.out.mono ?_
                      rintro e wd ⟨rfl, hin, hc⟩
                      rw [show errV 0 = .nilIface from rfl]
                      have HQ2 : Hid (MRel w wd t g k (sq.step p q) gx (cq + 1) ∧ InRnd P (Tried1 p (q + 1)) (sq.step p q)) := Lib.hid ⟨(HQ.out.1.step0 HE.out hin hc).1, HQ.out.2.step HQ.out.1.1.1 p q tried_step⟩
                      clear hin hc HST
                      go_wp2
                      go_roundw
                      case rel => exact ⟨q + 1, by omega, by go_num, cq + 1, by go_num, _, HQ2⟩
                      case measure => simp [intOf]; omega
                    · obtain ⟨ec, hEC⟩ : ∃ ec, Hid (sq.stepErr p q = ec) := ⟨_, Lib.hid rfl⟩
                      have HE := Lib.hid he
                      rw [hEC.out] at HST he
                      have HNE := Lib.hid he
                      clear he
                      go_wp2_with fail
                      refine HST.out.mono ?_
                      rintro e wd ⟨rfl, hin, hc⟩
                      rw [show errV ec = .iface 47 (.int .i64 ec) by unfold errV; rw [if_neg HNE.out]]
                      have HQ2 : Hid (MRel w wd t g k (sq.step p q) gx cq ∧ InRnd P (Tried1 p (q + 1)) (sq.step p q)) := Lib.hid ⟨(HQ.out.1.stepN HE.out hin hc).1, HQ.out.2.step HQ.out.1.1.1 p q tried_step⟩
                      clear hin hc HST
                      go_wp2
                      go_roundw
                      case rel => exact ⟨q + 1, by omega, by go_num, cq, rfl, _, HQ2⟩
                      case measure => simp [intOf]; omega
                  · have hq1 : ¬ (q : Int) < k := by omega
                    have HI3 : Hid (MRel w _ t g k sq gx cq ∧ InRnd P (Tried (p + 1) 0) sq) := Lib.hid ⟨HQ.out.1, HQ.out.2.mono fun h => tried_row (by rw [HQ.out.1.1.2.1, show k = q by omega]; exact h)⟩
                    go_wp2
                    go_roundw
                    case rel => exact ⟨p + 1, by omega, by go_num, cq, rfl, _, HI3⟩
                    case measure => simp [intOf]; omega
              · have hp1 : ¬ (p : Int) < k := by omega
                have HG2 : Hid (MRel w _ t g k sp gx cp ∧ Rounds (r + 1) sp) := Lib.hid ⟨HI.out.1, rounds_next HI.out.1.1.1 HP.out (HI.out.2.mono fun h => by rw [HI.out.1.1.2.1, show k = p by omega]; exact h)⟩
                go_wp2
                go_roundw
                case rel => exact ⟨r + 1, by omega, by go_num, cp, rfl, _, HG2⟩
                case measure => simp [intOf]; omega
          · have hr1 : ¬ (r : Int) < 170 := by omega
            have hst := rounds_end HG.out.1.1.1 HG.out.2 (by omega)
            have hps := (HG.out.1.1.1.still hst).2.1
            have HCG : Hid (cr = ((k : Int) - 1) * gx) := Lib.hid (by have := HG.out.1.2.1; rw [hps] at this; omega)
            have hx0 := HG.out.1.2.2.2
            have hx9 := HG.out.1.came hg150
            have hw2 : wrap64 (((k : Int) - 1) * gx) = cr := by rw [← HCG.out]; exact IntWalk.wrap64_in _ (by omega)
            have HEND := Lib.hid HG.out.1.1.2.2.2.2
            clear hst hps
            go_wp2
            go_ret
            exact ⟨by first | rfl | simp, HEND.out⟩

end Go.Proofs.Ytbcekojnphjcmaa
