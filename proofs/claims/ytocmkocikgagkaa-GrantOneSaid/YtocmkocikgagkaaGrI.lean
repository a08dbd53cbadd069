/-
  The walk of GrantOne: one at most is in; and of two that ask when one comes in the lesser time comes in first.
  Conditions: the steps are read as lists of integers.
-/
import Derived.Test.YtocmkocikgagkaaGrG
namespace Go.Proofs.Ytocmkocikgagkaa
open Go Go.RowKit

set_option maxHeartbeats 8000000 in
set_option maxRecDepth 100000 in
theorem one_walk (n : Int) (v : Value) (ll : List (List Int)) (w : World) (hr : Rd2 (fun k => k < w.heap.size) w v ll) (hlb : ll.length ≤ 9223372036854775807) :
    Calls Try.prog 5 #[.int .i64 n, v] w fun e w' => e = .returned (.bool true) ∧ Chg (NewB w) w w' := by
  have HR := Lib.hid hr
  clear hr
  go_enter Try.func5, Try.ntmps5
  go_wp2_with fail
  refine (grantFact_any w).mono ?_
  rintro e w1 ⟨rfl, hc1⟩
  go_wp2_with fail
  refine (new_any n w1).mono ?_
  rintro e w2 ⟨hc2, hnew⟩
  have HC1 := Lib.hid hc1
  have HC2 := Lib.hid hc2
  clear hc1 hc2
  rcases hnew with ⟨hbad, rfl⟩ | ⟨k, rfl, hk1, hk5, t, g, rfl, hin⟩
  · have hb : decide (n < 1) = true ∨ (decide (n < 1) = false ∧ decide (4 < n) = true) := by
      rcases Bool.and_eq_false_iff.1 hbad with h | h
      · left; rw [decide_eq_true_eq]; have := of_decide_eq_false h; omega
      · by_cases h1 : n < 1
        · left; rw [decide_eq_true_eq]; exact h1
        · right; rw [decide_eq_true_eq, decide_eq_false_iff_not]; have := of_decide_eq_false h; omega
    rw [show errV 1 = .iface 40 (.int .i64 1) from rfl]
    clear hbad
    rcases hb with hb | ⟨hb1, hb2⟩
    · go_wp2
      go_ret
      exact ⟨rfl, (HC1.out.trans HC2.out).ofNo⟩
    · go_wp2
      go_ret
      exact ⟨rfl, (HC1.out.trans HC2.out).ofNo⟩
  have HREL : Hid (GRel w w2 t g k (GNet.init k)) := Lib.hid ⟨GInv.start hk1 hk5, rfl, hin.mono (fun b hb => Nat.lt_of_lt_of_le hb HC1.out.size), (HC1.out.trans HC2.out).ofNo⟩
  clear hin
  obtain ⟨pv, cv, rfl⟩ := HR.out.val
  obtain ⟨sl, hSL⟩ : ∃ sl, Hid (ll.length = sl) := ⟨_, Lib.hid rfl⟩
  rw [hSL.out] at hlb HR ⊢
  go_wp2_with fail
  go_loopw [8] (fun i wr => ∃ j : Nat, j ≤ sl ∧ j ≤ 200 ∧ i = .int .i64 j ∧ ∃ s, Hid (GRel w wr t g k s)) (fun i _ => 200 - (intOf i).toNat)
  case atStart => exact ⟨0, Nat.zero_le _, Nat.zero_le _, rfl, _, HREL⟩
  case round =>
    obtain ⟨j, hjsl, hj200, rfl, s, HT⟩ := hrel
    by_cases hlt : j < sl ∧ j < 200
    · obtain ⟨hlt1, hlt2⟩ := hlt
      obtain ⟨b, off, c, u, e1, hcell, hrow, hrl⟩ := HR.out.at HT.out.2.2.2 (fun b hb hn => hn hb) (j := j) (by rw [hSL.out]; exact hlt1)
      simp only [Value.slice.injEq] at e1
      obtain ⟨rfl, -, rfl⟩ := e1
      have hj1 : (j : Int) < sl := by omega
      have hj2 : (j : Int) < 200 := by omega
      obtain ⟨l, HL⟩ : ∃ l, Hid (ll.getD j [] = l) := ⟨_, Lib.hid rfl⟩
      rw [HL.out] at hrow hrl
      obtain ⟨m, hM⟩ : ∃ m, Hid (l.length = m) := ⟨_, Lib.hid rfl⟩
      rw [hM.out] at hrl
      have HROW := Lib.hid hrow
      clear hrow
      have HJ : Hid (j < sl ∧ j < 200) := Lib.hid ⟨by omega, by omega⟩
      obtain ⟨y, hY⟩ : ∃ y, Hid (l.getD 1 0 = y) := ⟨_, Lib.hid rfl⟩
      have hcase : (m = 2 ∧ y = 0) ∨ (m = 2 ∧ y ≠ 0) ∨ m = 3 ∨ (m ≠ 2 ∧ m ≠ 3) := by omega
      rcases hcase with ⟨h2, hy⟩ | ⟨h2, hy⟩ | h3 | ⟨h2, h3⟩
      case' inl =>
        subst h2
        obtain ⟨b2, off2, c2, rfl, hbS, hc⟩ := HROW.out.form (by rw [hM.out]; omega)
        rw [hM.out] at hc hcell
        have d0 := hc 0 (by omega)
        have d1 := hc 1 (by omega)
        obtain ⟨x, hX⟩ : ∃ x, Hid (l.getD 0 0 = x) := ⟨_, Lib.hid rfl⟩
        rw [hX.out, Nat.add_zero] at d0
        rw [hY.out] at d1
        clear hc hrl
        have hy1 : (y == 0) = true := by rw [hy]; rfl
        have hy2 : (y != 0) = false := by rw [hy]; rfl
        have HG := Lib.hid (ask_any _ _ t g s HT.out.2.2.1 HT.out.1.sane x)
        clear hy
        go_wp2_with fail
        refine HG.out.mono ?_
        rintro e w1 ⟨rfl, hin, hcc⟩
        have HT2 := Lib.hid (HT.out.ask x hin hcc)
        have hcc : Chg (NewB w) _ w1 := hcc
        replace d0 := hcc.cell_some d0 (fun hn => hn hbS)
        replace d1 := hcc.cell_some d1 (fun hn => hn hbS)
        clear hin hcc HG
        go_wp2_with fail
      case' inr.inl =>
        subst h2
        obtain ⟨b2, off2, c2, rfl, hbS, hc⟩ := HROW.out.form (by rw [hM.out]; omega)
        rw [hM.out] at hc hcell
        have d0 := hc 0 (by omega)
        have d1 := hc 1 (by omega)
        obtain ⟨x, hX⟩ : ∃ x, Hid (l.getD 0 0 = x) := ⟨_, Lib.hid rfl⟩
        rw [hX.out, Nat.add_zero] at d0
        rw [hY.out] at d1
        clear hc hrl
        have hy1 : (y == 0) = false := by rw [beq_eq_false_iff_ne]; exact hy
        have hy2 : (y != 0) = true := by rw [bne_iff_ne]; exact hy
        have HG := Lib.hid (leave_any _ _ t g s HT.out.2.2.1 HT.out.1.sane x)
        clear hy
        go_wp2_with fail
        refine HG.out.mono ?_
        rintro e w1 ⟨rfl, hin, hcc⟩
        have HT2 := Lib.hid (HT.out.leave x hin hcc)
        clear hin hcc HG d0 d1
        go_wp2_with fail
      case' inr.inr.inl =>
        subst h3
        obtain ⟨b2, off2, c2, rfl, hbS, hc⟩ := HROW.out.form (by rw [hM.out]; omega)
        rw [hM.out] at hc hcell
        have d0 := hc 0 (by omega)
        have d1 := hc 1 (by omega)
        obtain ⟨x, hX⟩ : ∃ x, Hid (l.getD 0 0 = x) := ⟨_, Lib.hid rfl⟩
        rw [hX.out, Nat.add_zero] at d0
        rw [hY.out] at d1
        clear hc hrl
        have HG := Lib.hid (step_any _ _ t g s (HT.out.2.2.1.keep ((Chg.refl NoF _).drew)) HT.out.1.sane x y)
        go_wp2_with fail
        refine wp_region_plan (Chg NoF _) 7 [(0,true),(1,true),(2,true),(3,true),(4,true),(5,true),(6,true),(7,false)] mixed (by kernel_rfl) (Chg.refl _ _).drew ?_
        simp only [planOps, List.map_cons, List.map_nil, List.getElem?_cons_zero, List.getElem?_cons_succ, Option.getD_some]
        generalize hops : List.toArray _ = ops
        iterate 7 (refine wpPlan_quiet (v := ?_) rfl (fun _ _ _ h => h) (by intro w1 hS; have s0 := hS.cell_some d0 (fun h => h); have s1 := hS.cell_some d1 (fun h => h); clear hS; go_simp; with_reducible rfl) ?_; (simp only [Act.put, List.setIfInBounds_toArray, List.set_cons_zero, List.set_cons_succ]))
        refine wpPlan_loud rfl (fun K hK => ?_)
        go_simp
        refine HG.out.mono ?_
        rintro e w1 ⟨rfl, hin, hcc⟩
        refine hK _ _ (fun h => absurd rfl h) ?_
        clear hK K
        clear hops
        refine wpPlan_nil ?_
        have HT2 := Lib.hid (HT.out.step x y hin (((Chg.refl (NewB w) _).drew).trans hcc))
        clear hin hcc HG
        go_wp2_with fail
      case' inr.inr.inr =>
        obtain ⟨a2, c2, rfl⟩ := HROW.out.val
        rw [hM.out] at hcell
        have b2 : ((m : Int) == 2) = false := by rw [beq_eq_false_iff_ne]; omega
        have b3 : ((m : Int) == 3) = false := by rw [beq_eq_false_iff_ne]; omega
        have HT2 := HT
        clear h2 h3
        go_wp2_with fail
      all_goals
        obtain ⟨s2, HT3⟩ : ∃ s2, Hid (GRel w _ t g k s2) := ⟨_, HT2⟩
        clear HT2
        go_loopw [10] (fun i wr => ∃ p : Nat, p ≤ k ∧ i = .int .i64 p ∧ Hid (GRel w wr t g k s2)) (fun i _ => k - (intOf i).toNat)
        case atStart => exact ⟨0, Nat.zero_le _, rfl, HT3⟩
        case round =>
          obtain ⟨p, hpk, rfl, HZ⟩ := hrel
          by_cases hp : p < k
          · have hp1 : (p : Int) < k := by omega
            go_wp2_with fail
            go_loopw [11] (fun i wr => ∃ q : Nat, q ≤ k ∧ i = .int .i64 q ∧ Hid (GRel w wr t g k s2)) (fun i _ => k - (intOf i).toNat)
            case atStart => exact ⟨0, Nat.zero_le _, rfl, HZ⟩
            case round =>
              clear HZ
              obtain ⟨q, hqk, rfl, HZ⟩ := hrel
              by_cases hq : q < k
              · have hq1 : (q : Int) < k := by omega
                have hps : p < s2.n := by rw [HZ.out.2.1]; exact hp
                have hqs : q < s2.n := by rw [HZ.out.2.1]; exact hq
                have e1 : (if s2.is (p : Int) = true then s2.st (p : Int).toNat else -1) = s2.st p := by rw [if_pos ((s2.is_iff p).2 ⟨p, rfl, hps⟩), Int.toNat_natCast]
                have e2 : (if s2.is (q : Int) = true then s2.st (q : Int).toNat else -1) = s2.st q := by rw [if_pos ((s2.is_iff q).2 ⟨q, rfl, hqs⟩), Int.toNat_natCast]
                have e3 : (if s2.is (p : Int) = true then s2.tm (p : Int).toNat else -1) = s2.tm p := by rw [if_pos ((s2.is_iff p).2 ⟨p, rfl, hps⟩), Int.toNat_natCast]
                have e4 : (if s2.is (q : Int) = true then s2.tm (q : Int).toNat else -1) = s2.tm q := by rw [if_pos ((s2.is_iff q).2 ⟨q, rfl, hqs⟩), Int.toNat_natCast]
                have HSP := Lib.hid (state_any _ _ t g s2 HZ.out.2.2.1 HZ.out.1.n1 p)
                have HSQ := Lib.hid (state_any _ _ t g s2 HZ.out.2.2.1 HZ.out.1.n1 q)
                have HTP := Lib.hid (time_any _ _ t g s2 HZ.out.2.2.1 HZ.out.1.n1 p)
                have HTQ := Lib.hid (time_any _ _ t g s2 HZ.out.2.2.1 HZ.out.1.n1 q)
                rw [e1] at HSP
                rw [e2] at HSQ
                rw [e3] at HTP
                rw [e4] at HTQ
                have hfact : p ≠ q → s2.st p = 2 → s2.st q ≠ 2 ∧ (s2.st q = 1 → tlt s2 p q) := fun hne h2 => ⟨HZ.out.1.single hps hqs hne h2, HZ.out.1.first hps hqs hne h2⟩
                unfold tlt at hfact
                obtain ⟨sp, HP⟩ : ∃ x, Hid (s2.st p = x) := ⟨_, Lib.hid rfl⟩
                obtain ⟨sq, HQ⟩ : ∃ x, Hid (s2.st q = x) := ⟨_, Lib.hid rfl⟩
                obtain ⟨tp, HP2⟩ : ∃ x, Hid (s2.tm p = x) := ⟨_, Lib.hid rfl⟩
                obtain ⟨tq, HQ2⟩ : ∃ x, Hid (s2.tm q = x) := ⟨_, Lib.hid rfl⟩
                rw [HP.out] at HSP hfact
                rw [HQ.out] at HSQ hfact
                rw [HP2.out] at HTP hfact
                rw [HQ2.out] at HTQ hfact
                clear hps hqs e1 e2 e3 e4
                by_cases hpq : p = q
                · have hb1 : ((p : Int) != (q : Int)) = false := by rw [hpq]; simp
                  clear hfact hpq
                  go_wp2
                  go_roundw
                  case rel => exact ⟨q + 1, by omega, by go_num, HZ⟩
                  case measure => simp [intOf]; omega
                have hb1 : ((p : Int) != (q : Int)) = true := by rw [bne_iff_ne]; omega
                by_cases h2 : sp = 2
                · have hb2 : (sp == 2) = true := by rw [h2]; rfl
                  obtain ⟨hf1, hf2⟩ := hfact hpq h2
                  have hb3 : (sq == 2) = false := by rw [beq_eq_false_iff_ne]; exact hf1
                  by_cases h1 : sq = 1
                  · have hb4 : (sq == 1) = true := by rw [h1]; rfl
                    have hf3 := hf2 h1
                    have ht1 : ¬ tq < tp := by omega
                    by_cases hte : tq = tp
                    · have hb5 : (tq == tp) = true := by rw [hte]; simp
                      have ht2 : ¬ (q : Int) < p := by omega
                      clear hfact h2 h1 hf1 hf2 hf3 hte hpq
                      go_wp2_with fail
                      refine HSP.out.mono ?_
                      rintro e w' ⟨rfl, rfl⟩
                      go_wp2_with fail
                      refine HSQ.out.mono ?_
                      rintro e w' ⟨rfl, rfl⟩
                      go_wp2_with fail
                      refine HSP.out.mono ?_
                      rintro e w' ⟨rfl, rfl⟩
                      go_wp2_with fail
                      refine HSQ.out.mono ?_
                      rintro e w' ⟨rfl, rfl⟩
                      go_wp2_with fail
                      refine HTQ.out.mono ?_
                      rintro e w' ⟨rfl, rfl⟩
                      go_wp2_with fail
                      refine HTP.out.mono ?_
                      rintro e w' ⟨rfl, rfl⟩
                      go_wp2_with fail
                      refine HTQ.out.mono ?_
                      rintro e w' ⟨rfl, rfl⟩
                      go_wp2_with fail
                      refine HTP.out.mono ?_
                      rintro e w' ⟨rfl, rfl⟩
                      go_wp2
                      go_roundw
                      case rel => exact ⟨q + 1, by omega, by go_num, HZ⟩
                      case measure => simp [intOf]; omega
                    · have hb5 : (tq == tp) = false := by rw [beq_eq_false_iff_ne]; exact hte
                      clear hfact h2 h1 hf1 hf2 hf3 hte hpq
                      go_wp2_with fail
                      refine HSP.out.mono ?_
                      rintro e w' ⟨rfl, rfl⟩
                      go_wp2_with fail
                      refine HSQ.out.mono ?_
                      rintro e w' ⟨rfl, rfl⟩
                      go_wp2_with fail
                      refine HSP.out.mono ?_
                      rintro e w' ⟨rfl, rfl⟩
                      go_wp2_with fail
                      refine HSQ.out.mono ?_
                      rintro e w' ⟨rfl, rfl⟩
                      go_wp2_with fail
                      refine HTQ.out.mono ?_
                      rintro e w' ⟨rfl, rfl⟩
                      go_wp2_with fail
                      refine HTP.out.mono ?_
                      rintro e w' ⟨rfl, rfl⟩
                      go_wp2_with fail
                      refine HTQ.out.mono ?_
                      rintro e w' ⟨rfl, rfl⟩
                      go_wp2_with fail
                      refine HTP.out.mono ?_
                      rintro e w' ⟨rfl, rfl⟩
                      go_wp2
                      go_roundw
                      case rel => exact ⟨q + 1, by omega, by go_num, HZ⟩
                      case measure => simp [intOf]; omega
                  · have hb4 : (sq == 1) = false := by rw [beq_eq_false_iff_ne]; exact h1
                    clear hfact h2 h1 hf1 hf2 hpq
                    go_wp2_with fail
                    refine HSP.out.mono ?_
                    rintro e w' ⟨rfl, rfl⟩
                    go_wp2_with fail
                    refine HSQ.out.mono ?_
                    rintro e w' ⟨rfl, rfl⟩
                    go_wp2_with fail
                    refine HSP.out.mono ?_
                    rintro e w' ⟨rfl, rfl⟩
                    go_wp2_with fail
                    refine HSQ.out.mono ?_
                    rintro e w' ⟨rfl, rfl⟩
                    go_wp2
                    go_roundw
                    case rel => exact ⟨q + 1, by omega, by go_num, HZ⟩
                    case measure => simp [intOf]; omega
                · have hb2 : (sp == 2) = false := by rw [beq_eq_false_iff_ne]; exact h2
                  clear hfact h2 hpq
                  go_wp2_with fail
                  refine HSP.out.mono ?_
                  rintro e w' ⟨rfl, rfl⟩
                  go_wp2_with fail
                  refine HSP.out.mono ?_
                  rintro e w' ⟨rfl, rfl⟩
                  go_wp2
                  go_roundw
                  case rel => exact ⟨q + 1, by omega, by go_num, HZ⟩
                  case measure => simp [intOf]; omega
              · have hq1 : ¬ (q : Int) < k := by omega
                go_wp2
                go_roundw
                case rel => exact ⟨p + 1, by omega, by go_num, HZ⟩
                case measure => simp [intOf]; omega
          · have hp1 : ¬ (p : Int) < k := by omega
            go_wp2
            go_roundw
            case rel => exact ⟨j + 1, by have := HJ.out; omega, by have := HJ.out; omega, by go_num, _, HZ⟩
            case measure => have := HJ.out; simp [intOf]; omega
    · have hb : ¬ (j : Int) < sl ∨ ((j : Int) < sl ∧ ¬ (j : Int) < 200) := by omega
      clear hlt
      rcases hb with hb | ⟨hb1, hb2⟩
      all_goals
        go_wp2
        go_ret
        exact ⟨rfl, HT.out.2.2.2⟩

end Go.Proofs.Ytocmkocikgagkaa
