/-
  The walk of TokenOne: who is in has the token, and so one at most is in; nobody is in its queue twice, or is in, or has it.
  Conditions: the steps are read as lists of integers.
-/
import Derived.Test.YtbcekojnphjcmaaToH
namespace Go.Proofs.Ytbcekojnphjcmaa
open Go Go.RowKit

theorem TInv.holdT {s : TNet} (h : TInv s) : (s.holder = -1 ∧ ∃ k : Nat, s.targetOf = k ∧ k < s.n) ∨ (s.targetOf = -1 ∧ ∃ k : Nat, s.holder = k ∧ k < s.n) := by
  unfold TNet.targetOf
  rcases h.hold with ⟨h1, k, h2, h3, _⟩ | ⟨k, h1, h2⟩
  · left; refine ⟨h1, k, ?_, h3⟩
    rw [if_pos (by omega), h2]
  · right; refine ⟨?_, k, h1, h2⟩
    rw [if_neg (by omega)]

theorem TInv.state2 {s : TNet} (h : TInv s) {p : Nat} (hp : p < s.n) (h2 : s.stateOf p = 2) : s.holder = p := by
  unfold TNet.stateOf at h2
  rw [if_pos ((s.is_iff p).2 ⟨p, rfl, hp⟩), Int.toNat_natCast] at h2
  cases hi : s.inn p with
  | true => exact h.inH p hp hi
  | false =>
    rw [hi, if_neg (by decide)] at h2
    split at h2 <;> omega

theorem TInv.queued {s : TNet} (h : TInv s) {x : Int} (hx : x ∈ s.queue) : inB x 0 ((s.n : Int) - 1) = true ∧ x ≠ s.holder ∧ x ≠ s.targetOf ∧ s.stateOf x = 1 := by
  obtain ⟨q, rfl, hq, ha, ht⟩ := h.que x hx
  have hh : s.holder ≠ q := fun e => by
    have := h.holdA q hq e
    rw [ha] at this; cases this
  have hi : s.inn q = false := by
    cases e : s.inn q with
    | false => rfl
    | true => exact absurd (h.inH q hq e) hh
  refine ⟨(s.is_iff q).2 ⟨q, rfl, hq⟩, fun e => hh e.symm, ?_, ?_⟩
  · rcases h.holdT with ⟨h1, k, h2, _⟩ | ⟨h1, _⟩
    · have := ht h1
      unfold TNet.targetOf
      rw [if_pos (by omega)]
      exact fun e => this e.symm
    · omega
  · unfold TNet.stateOf
    rw [if_pos ((s.is_iff q).2 ⟨q, rfl, hq⟩), Int.toNat_natCast, hi, ha]; rfl

theorem nodup_ne {l : List Int} (h : l.Nodup) {a b : Nat} (hab : a < b) (hb : b < l.length) : l.getD a 0 ≠ l.getD b 0 := by
  rw [List.getD_eq_getElem?_getD, List.getD_eq_getElem?_getD, List.getElem?_eq_getElem (by omega), List.getElem?_eq_getElem hb]
  simp only [Option.getD_some]
  exact List.pairwise_iff_getElem.1 h a b (by omega) hb hab

set_option maxHeartbeats 8000000 in
set_option maxRecDepth 100000 in
theorem one_walk (n : Int) (v : Value) (ll : List (List Int)) (w : World) (hr : Rd2 (fun k => k < w.heap.size) w v ll) (hlb : ll.length ≤ 9223372036854775807) :
    Calls Try.prog 3 #[.int .i64 n, v] w fun e w' => e = .returned (.bool true) ∧ Chg (NewB w) w w' := by
  have HR := Lib.hid hr
  clear hr
  go_enter Try.func3, Try.ntmps3
  go_wp2_with fail
  refine (tokenFact_any w).mono ?_
  rintro e w1 ⟨rfl, hc1⟩
  go_wp2_with fail
  refine (new_any n w1).mono ?_
  rintro e w2 ⟨hc2, hnew⟩
  have HC1 := Lib.hid hc1
  have HC2 := Lib.hid hc2
  clear hc1 hc2
  rcases hnew with ⟨hbad, rfl⟩ | ⟨k, rfl, hk1, hk4, t, g, rfl, hin⟩
  · have hb : decide (n < 1) = true ∨ (decide (n < 1) = false ∧ decide (4 < n) = true) := by
      rcases Bool.and_eq_false_iff.1 hbad with h | h
      · left; rw [decide_eq_true_eq]; have := of_decide_eq_false h; omega
      · by_cases h1 : n < 1
        · left; rw [decide_eq_true_eq]; exact h1
        · right; rw [decide_eq_true_eq, decide_eq_false_iff_not]; have := of_decide_eq_false h; omega
    rw [show errV 1 = .iface 47 (.int .i64 1) from rfl]
    clear hbad
    rcases hb with hb | ⟨hb1, hb2⟩
    · go_wp2
      go_ret
      exact ⟨rfl, (HC1.out.trans HC2.out).ofNo⟩
    · go_wp2
      go_ret
      exact ⟨rfl, (HC1.out.trans HC2.out).ofNo⟩
  have HREL : Hid (TRel w w2 t g k (TNet.init k) ∧ kst (TNet.init k) ≤ 8) := Lib.hid ⟨TRel.start hk1 hk4 HC1.out HC2.out hin, (start_pots hk4).2⟩
  clear hin
  obtain ⟨pv, cv, rfl⟩ := HR.out.val
  obtain ⟨sl, hSL⟩ : ∃ sl, Hid (ll.length = sl) := ⟨_, Lib.hid rfl⟩
  rw [hSL.out] at hlb HR ⊢
  go_wp2_with fail
  go_loopw [8] (fun i wr => ∃ j : Nat, j ≤ sl ∧ j ≤ 200 ∧ i = .int .i64 j ∧ ∃ s, Hid (TRel w wr t g k s ∧ kst s ≤ 8 + j)) (fun i _ => 200 - (intOf i).toNat)
  case atStart => exact ⟨0, Nat.zero_le _, Nat.zero_le _, rfl, _, HREL⟩
  case round =>
    obtain ⟨j, hjsl, hj200, rfl, s, HT⟩ := hrel
    by_cases hlt : j < sl ∧ j < 200
    · obtain ⟨hlt1, hlt2⟩ := hlt
      obtain ⟨b, off, c, u, e1, hcell, hrow, hrl⟩ := HR.out.at HT.out.1.2.2.2.2 (fun b hb hn => hn hb) (j := j) (by rw [hSL.out]; exact hlt1)
      simp only [Value.slice.injEq] at e1
      obtain ⟨rfl, -, rfl⟩ := e1
      have hj1 : (j : Int) < sl := by omega
      have hj2 : (j : Int) < 200 := by omega
      have HG := Lib.hid (does_any _ _ t g s HT.out.1.2.2.2.1 HT.out.1.sane (fun b hb => Nat.lt_of_lt_of_le hb HT.out.1.2.2.2.2.size) _ _ hrow)
      clear hrow hrl
      go_wp2_with fail
      refine HG.out.mono ?_
      rintro e w1 ⟨rfl, hin, hcc⟩
      have HT2 : Hid (TRel w w1 t g k (s.act (ll.getD j [])) ∧ kst (s.act (ll.getD j [])) ≤ 8 + ((j + 1 : Nat) : Int)) := Lib.hid (by
        have h1 := HT.out.1.act (by have := HT.out.2; omega) _ hin hcc
        exact ⟨h1.1, by have := h1.2; have := HT.out.2; push_cast; omega⟩)
      clear hin hcc HG hcell
      obtain ⟨s2, HT3⟩ : ∃ s2, Hid (TRel w w1 t g k s2 ∧ kst s2 ≤ 8 + ((j + 1 : Nat) : Int)) := ⟨_, HT2⟩
      clear HT2
      have HJ : Hid (j < sl ∧ j < 200) := Lib.hid ⟨by omega, by omega⟩
      have hql : s2.queue.length < 1000 := Nat.lt_trans HT3.out.1.sane.que (by omega)
      have HTK := Lib.hid (token_any _ _ t g s2 HT3.out.1.2.2.2.1 hql)
      have HTC : Hid ((s2.holder = -1 ∧ ∃ x : Nat, s2.targetOf = x ∧ x < k) ∨ (s2.targetOf = -1 ∧ ∃ x : Nat, s2.holder = x ∧ x < k)) := Lib.hid (by have h1 := HT3.out.1.1.holdT; rw [HT3.out.1.2.1] at h1; exact h1)
      have HK2 : Hid (∀ x ∈ s2.queue, inB x 0 ((k : Int) - 1) = true ∧ x ≠ s2.holder ∧ x ≠ s2.targetOf ∧ s2.stateOf x = 1) := Lib.hid fun x hx => by have h1 := HT3.out.1.1.queued hx; rw [HT3.out.1.2.1] at h1; exact h1
      have HS2 : Hid (∀ p : Nat, p < k → s2.stateOf p = 2 → s2.holder = p) := Lib.hid fun p hp h2 => HT3.out.1.1.state2 (by rw [HT3.out.1.2.1]; exact hp) h2
      have HND : Hid (s2.queue.Nodup) := Lib.hid HT3.out.1.1.qnd
      obtain ⟨ho, HHO⟩ : ∃ x, Hid (s2.holder = x) := ⟨_, Lib.hid rfl⟩
      obtain ⟨tg, HTG⟩ : ∃ x, Hid (s2.targetOf = x) := ⟨_, Lib.hid rfl⟩
      rw [HHO.out, HTG.out] at HTK HTC HK2
      rw [HHO.out] at HS2
      go_wp2_with fail
      refine HTK.out.mono ?_
      rintro e w3 ⟨qv, rfl, hrd, hcc⟩
      have HREL4 := Lib.hid (HT3.out.1.keep hcc)
      have HQ := Lib.hid (hrd.mono (fun _ _ _ => trivial) : Rd (fun _ => True) w3 qv s2.queue)
      have HKS : Hid (kst s2 ≤ 8 + ((j + 1 : Nat) : Int)) := Lib.hid HT3.out.2
      clear hrd hcc HTK HT3
      obtain ⟨qa, qc, rfl⟩ := HQ.out.val
      obtain ⟨ql, HQL⟩ : ∃ x, Hid (s2.queue.length = x) := ⟨_, Lib.hid rfl⟩
      have hql1 : ql < 1000 := by rw [← HQL.out]; exact hql
      rw [HQL.out] at HQ ⊢
      clear hql
      have hfl : ¬ ho < -1 ∧ ¬ (k : Int) ≤ ho ∧ ¬ (k : Int) ≤ tg ∧ (((ho == -1) = true ∧ decide ((0 : Int) ≤ tg) = true) ∨ ((ho == -1) = false ∧ decide ((0 : Int) ≤ tg) = false)) := by
        rcases HTC.out with ⟨h1, x, h2, h3⟩ | ⟨h1, x, h2, h3⟩
        · refine ⟨by omega, by omega, by omega, .inl ⟨by rw [h1]; rfl, by rw [decide_eq_true_eq]; omega⟩⟩
        · refine ⟨by omega, by omega, by omega, .inr ⟨by rw [beq_eq_false_iff_ne]; omega, by rw [decide_eq_false_iff_not]; omega⟩⟩
      obtain ⟨hf1, hf2, hf3, hf4⟩ := hfl
      rcases hf4 with ⟨hf4, hf5⟩ | ⟨hf4, hf5⟩
      all_goals
        go_wp2_with fail
        clear hf1 hf2 hf3 hf4 hf5
        go_loopw [12] (fun i wr => ∃ p : Nat, p ≤ k ∧ i = .int .i64 p ∧ Hid (TRel w wr t g k s2 ∧ Rd (fun _ => True) wr (.slice qa ql qc) s2.queue)) (fun i _ => k - (intOf i).toNat)
        case atStart => exact ⟨0, Nat.zero_le _, rfl, Lib.hid ⟨HREL4.out, HQ.out⟩⟩
        case round =>
          clear HREL4 HQ
          obtain ⟨p, hpk, rfl, HZ⟩ := hrel
          by_cases hp : p < k
          · have hp1 : (p : Int) < k := by omega
            have HN := Lib.hid (state_any _ _ t g s2 HZ.out.1.2.2.2.1 HZ.out.1.1.n1 p)
            have hs2 := HS2.out p hp
            obtain ⟨sp, HSP⟩ : ∃ x, Hid (s2.stateOf p = x) := ⟨_, Lib.hid rfl⟩
            rw [HSP.out] at HN hs2
            by_cases h2 : sp = 2
            · have hb2 : (sp == 2) = true := by rw [h2]; rfl
              have hb3 : (ho != (p : Int)) = false := by rw [hs2 h2]; simp
              clear hs2 h2
              go_wp2_with fail
              refine HN.out.mono ?_
              rintro e w' ⟨rfl, rfl⟩
              clear HN
              go_wp2
              go_roundw
              case rel => exact ⟨p + 1, by omega, by go_num, HZ⟩
              case measure => simp [intOf]; omega
            · have hb2 : (sp == 2) = false := by rw [beq_eq_false_iff_ne]; exact h2
              clear hs2 h2
              go_wp2_with fail
              refine HN.out.mono ?_
              rintro e w' ⟨rfl, rfl⟩
              clear HN
              go_wp2
              go_roundw
              case rel => exact ⟨p + 1, by omega, by go_num, HZ⟩
              case measure => simp [intOf]; omega
          · have hp1 : ¬ (p : Int) < k := by omega
            have hp2 := hp1
            clear hp
            go_wp2_with fail
            clear hp1 hp2
            go_loopw [13] (fun i wr => ∃ c : Nat, c ≤ ql ∧ i = .int .i64 c ∧ Hid (TRel w wr t g k s2 ∧ Rd (fun _ => True) wr (.slice qa ql qc) s2.queue)) (fun i _ => ql - (intOf i).toNat)
            case atStart => exact ⟨0, Nat.zero_le _, rfl, HZ⟩
            case round =>
              clear HZ
              obtain ⟨c, hcq, rfl, HZ⟩ := hrel
              by_cases hc : c < ql
              · have hc1 : (c : Int) < ql := by omega
                obtain ⟨b, off, cc, e1, _, hcell⟩ := HZ.out.2.form (by rw [HQL.out]; omega)
                simp only [Value.slice.injEq] at e1
                obtain ⟨rfl, -, rfl⟩ := e1
                have hx := HK2.out (s2.queue.getD c 0) (by rw [List.getD_eq_getElem?_getD, List.getElem?_eq_getElem (by rw [HQL.out]; exact hc), Option.getD_some]; exact List.getElem_mem _)
                have d1 := hcell c (by rw [HQL.out]; exact hc)
                obtain ⟨x, HX⟩ : ∃ x, Hid (s2.queue.getD c 0 = x) := ⟨_, Lib.hid rfl⟩
                rw [HX.out] at hx d1
                obtain ⟨hx1, hx2, hx3, hx4⟩ := hx
                have hb1 : (x == ho) = false := by rw [beq_eq_false_iff_ne]; exact hx2
                have hb2 : (x == tg) = false := by rw [beq_eq_false_iff_ne]; exact hx3
                have HN := Lib.hid (state_any _ _ t g s2 HZ.out.1.2.2.2.1 HZ.out.1.1.n1 x)
                rw [hx4] at HN
                have HK1 : Hid (1 ≤ k ∧ k ≤ 4) := Lib.hid (by have h1 := HZ.out.1.1.n1; have h2 := HZ.out.1.1.n4; rw [HZ.out.1.2.1] at h1 h2; exact ⟨h1, h2⟩)
                obtain ⟨hk1', hk4'⟩ := HK1.out
                have HIB := Lib.hid hx1
                clear hcell hx1 hx2 hx3 hx4
                go_wp2_with fail
                go_at_call 11
                refine (lawIn_any _ _ _ _).mono ?_
                rintro e w' ⟨rfl, rfl⟩
                rw [HIB.out]
                go_wp2_with fail
                refine HN.out.mono ?_
                rintro e w' ⟨rfl, rfl⟩
                clear HN
                go_wp2_with fail
                clear d1
                go_loopw [14] (fun i wr => ∃ d : Nat, d ≤ c ∧ i = .int .i64 d ∧ Hid (TRel w wr t g k s2 ∧ Rd (fun _ => True) wr (.slice (some ⟨b, off, none⟩) ql qc) s2.queue)) (fun i _ => c - (intOf i).toNat)
                case atStart => exact ⟨0, Nat.zero_le _, rfl, HZ⟩
                case round =>
                  clear HZ
                  obtain ⟨d, hdc, rfl, HZ⟩ := hrel
                  by_cases hd : d < c
                  · have hd1 : (d : Int) < c := by omega
                    have hdq1 : (d : Int) < ql := by omega
                    obtain ⟨b', off', cc', e1, _, hcell⟩ := HZ.out.2.form (by rw [HQL.out]; omega)
                    simp only [Value.slice.injEq, Option.some.injEq, Addr.mk.injEq, and_true] at e1
                    obtain ⟨⟨rfl, rfl⟩, -, rfl⟩ := e1
                    have d0 := hcell d (by rw [HQL.out]; omega)
                    have d1 := hcell c (by rw [HQL.out]; exact hc)
                    have hne := nodup_ne HND.out hd (by rw [HQL.out]; exact hc)
                    obtain ⟨y, HY⟩ : ∃ y, Hid (s2.queue.getD d 0 = y) := ⟨_, Lib.hid rfl⟩
                    rw [HX.out] at d1 hne
                    rw [HY.out] at d0 hne
                    have hb3 : (y == x) = false := by rw [beq_eq_false_iff_ne]; exact hne
                    clear hcell hne
                    go_wp2_with fail
                    refine wp_region_plan (Chg NoF _) 9 [(0,true),(1,true),(2,true),(3,true),(4,true),(5,true),(6,true),(7,true),(8,true)] mixed (by kernel_rfl) (Chg.refl _ _).drew ?_
                    simp only [planOps, List.map_cons, List.map_nil, List.getElem?_cons_zero, List.getElem?_cons_succ, Option.getD_some]
                    generalize hops : List.toArray _ = ops
                    iterate 9 (refine wpPlan_quiet (v := ?_) rfl (fun _ _ _ h => h) (by intro w1 hS; have s0 := hS.cell_some d0 (fun h => h); have s1 := hS.cell_some d1 (fun h => h); clear hS; go_simp; with_reducible rfl) ?_; (simp only [Act.put, List.setIfInBounds_toArray, List.set_cons_zero, List.set_cons_succ]))
                    clear hops
                    refine wpPlan_nil ?_
                    have HZ2 := Lib.hid (⟨HZ.out.1.keep ((Chg.refl NoF _).drew), HZ.out.2.keep ((Chg.refl NoF _).drew) (fun _ _ h => h)⟩ : _ ∧ _)
                    clear d0 d1
                    go_wp2
                    go_roundw
                    case rel => exact ⟨d + 1, by omega, by go_num, HZ2⟩
                    case measure => simp [intOf]; omega
                  · have hd1 : ¬ (d : Int) < c := by omega
                    go_wp2
                    go_roundw
                    case rel => exact ⟨c + 1, by omega, by go_num, HZ⟩
                    case measure => simp [intOf]; omega
              · have hc1 : ¬ (c : Int) < ql := by omega
                have HT4 : Hid (TRel w _ t g k s2 ∧ kst s2 ≤ 8 + ((j + 1 : Nat) : Int)) := Lib.hid ⟨HZ.out.1, HKS.out⟩
                go_wp2
                go_roundw
                case rel => exact ⟨j + 1, by have := HJ.out; omega, by have := HJ.out; omega, by go_num, _, HT4⟩
                case measure => have := HJ.out; simp [intOf]; omega
    · have hb : ¬ (j : Int) < sl ∨ ((j : Int) < sl ∧ ¬ (j : Int) < 200) := by omega
      have HEND := Lib.hid HT.out.1.2.2.2.2
      clear hlt
      rcases hb with hb | ⟨hb1, hb2⟩
      all_goals
        go_wp2
        go_ret
        exact ⟨rfl, HEND.out⟩

end Go.Proofs.Ytbcekojnphjcmaa
