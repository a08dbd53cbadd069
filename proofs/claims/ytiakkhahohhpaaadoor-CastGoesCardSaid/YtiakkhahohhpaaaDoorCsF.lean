/-
  The walk of CastGoes: behind whatever happened, if all notes are tried, again and again, all nodes have all.
  Conditions: the steps are read as lists of integers; package errors' variable errorType holds the handle of the type 'error'.
-/
import Derived.Test.YtiakkhahohhpaaaDoorCsE
import Derived.Test.YtiakkhahohhpaaaDoorCsMath2
namespace Go.Proofs.YtiakkhahohhpaaaDoor
open Go Go.RowKit

set_option maxHeartbeats 8000000 in
set_option maxRecDepth 100000 in
theorem goes_walk (n : Int) (v : Value) (ll : List (List Int)) (w : World) (hg : As.Met w) (hr : Rd2 (fun k => k < w.heap.size) w v ll) (hlb : ll.length ≤ 9223372036854775807) :
    Calls Tryd.prog 4 #[.int .i64 n, v] w fun e w' => e = .returned (.bool true) ∧ Chg (NewB w) w w' := by
  have HR := Lib.hid hr
  have _ := hlb
  have HG := Lib.hid hg
  clear hr hg
  go_enter Tryd.func4, Tryd.ntmps4
  go_wp2_with fail
  refine (castFact_any w HG.out).mono ?_
  rintro e w1 ⟨rfl, hc1⟩
  go_wp2_with fail
  refine (new_any n w1).mono ?_
  rintro e w2 ⟨hc2, hnew⟩
  have HC1 := Lib.hid hc1
  have HC2 := Lib.hid hc2
  clear hc1 hc2
  rcases hnew with ⟨hbad, rfl⟩ | ⟨k, rfl, hk1, hk4, t, rfl, hin⟩
  · have hb : decide (n < 1) = true ∨ (decide (n < 1) = false ∧ decide (4 < n) = true) := by
      rcases Bool.and_eq_false_iff.1 hbad with h | h
      · left; rw [decide_eq_true_eq]; have := of_decide_eq_false h; omega
      · by_cases h1 : n < 1
        · left; rw [decide_eq_true_eq]; exact h1
        · right; rw [decide_eq_true_eq, decide_eq_false_iff_not]; have := of_decide_eq_false h; omega
    rw [show errV 1 = .iface 54 (.int .i64 1) from rfl]
    clear hbad
    rcases hb with hb | ⟨hb1, hb2⟩
    · go_wp2
      go_ret
      exact ⟨rfl, (HC1.out.trans HC2.out).ofNo⟩
    · go_wp2
      go_ret
      exact ⟨rfl, (HC1.out.trans HC2.out).ofNo⟩
  have HREL : Hid (CRel w w2 t k (CNet.init k)) := Lib.hid (CRel.start hk1 hk4 HC1.out HC2.out hin)
  clear hin
  obtain ⟨pv, cv, rfl⟩ := HR.out.val
  obtain ⟨sl, hSL⟩ : ∃ sl, Hid (ll.length = sl) := ⟨_, Lib.hid rfl⟩
  rw [hSL.out] at hlb HR ⊢
  go_wp2_with fail
  go_loopw [8] (fun i wr => ∃ j : Nat, j ≤ sl ∧ j ≤ 100 ∧ i = .int .i64 j ∧ ∃ s, Hid (CRel w wr t k s)) (fun i _ => 100 - (intOf i).toNat)
  case atStart => exact ⟨0, Nat.zero_le _, Nat.zero_le _, rfl, _, HREL⟩
  case round =>
    clear HREL
    obtain ⟨j, hjsl, hj150, rfl, s, HT⟩ := hrel
    by_cases hlt : j < sl ∧ j < 100
    · obtain ⟨hlt1, hlt2⟩ := hlt
      obtain ⟨b, off, c, u, e1, hcell, hrow, hrl⟩ := HR.out.at HT.out.2.2.2 (fun b hb hn => hn hb) (j := j) (by rw [hSL.out]; exact hlt1)
      simp only [Value.slice.injEq] at e1
      obtain ⟨rfl, -, rfl⟩ := e1
      have hj1 : (j : Int) < sl := by omega
      have hj2 : (j : Int) < 100 := by omega
      have HD := Lib.hid (does_any _ _ t s HT.out.2.2.1 HT.out.1 _ _ hrow)
      clear hrow hrl
      go_wp2_with fail
      refine HD.out.mono ?_
      rintro e w1 ⟨rfl, hin, hcc⟩
      have HT2 : Hid (CRel w w1 t k (s.act (ll.getD j []))) := Lib.hid (HT.out.step (HT.out.1.act _) (s.act_n _) hin hcc)
      clear hin hcc HD hcell
      go_wp2
      go_roundw
      case rel => exact ⟨j + 1, by omega, by omega, by go_num, _, HT2⟩
      case measure => simp [intOf]; omega
    · have HREL2 : Hid (CRel w wr t k s ∧ TriedTo 0 0 s) := Lib.hid ⟨HT.out, tried_start s⟩
      have hb : ¬ (j : Int) < sl ∨ ((j : Int) < sl ∧ ¬ (j : Int) < 100) := by omega
      clear hlt HT
      rcases hb with hb | ⟨hb1, hb2⟩
      all_goals
        go_wp2_with fail
        go_loopw [9, 10] (fun i _ wr => ∃ a : Nat, a ≤ 20 ∧ i = .int .i64 a ∧ ∃ s, Hid (CRel w wr t k s ∧ TriedTo a 0 s)) (fun i _ _ => 20 - (intOf i).toNat)
        case atStart => exact ⟨0, Nat.zero_le _, rfl, s, HREL2⟩
        case round =>
          clear HREL2
          obtain ⟨a, ha20, rfl, sa, HA⟩ := hrel
          by_cases ha : a < 20
          · have ha1 : (a : Int) < 20 := by omega
            go_wp2_with fail
            go_loopw [10] (fun i wr => ∃ p : Nat, p ≤ k ∧ i = .int .i64 p ∧ ∃ s, Hid (CRel w wr t k s ∧ TriedTo a p s)) (fun i _ => k - (intOf i).toNat)
            case atStart => exact ⟨0, Nat.zero_le _, rfl, _, HA⟩
            case round =>
              clear HA
              obtain ⟨p, hpk, rfl, sp, HI⟩ := hrel
              by_cases hp : p < k
              · have hp1 : (p : Int) < k := by omega
                have HST := Lib.hid (take_any _ _ t sp HI.out.1.2.2.1 HI.out.1.1 p a)
                go_wp2_with fail
                refine HST.out.mono ?_
                rintro e wc ⟨rfl, hin, hc⟩
                have HI2 : Hid (CRel w wc t k (sp.take p a) ∧ TriedTo a (p + 1) (sp.take p a)) := Lib.hid ⟨HI.out.1.step (HI.out.1.1.take p a) (sp.take_n _ _) hin hc, tried_next HI.out.1.1 HI.out.2 (by rw [HI.out.1.2.1]; exact hp)⟩
                clear hin hc HST
                go_wp2
                go_roundw
                case rel => exact ⟨p + 1, by omega, by go_num, _, HI2⟩
                case measure => simp [intOf]; omega
              · have hp1 : ¬ (p : Int) < k := by omega
                have HG2 : Hid (CRel w wr t k sp ∧ TriedTo (a + 1) 0 sp) := Lib.hid ⟨HI.out.1, tried_row HI.out.2 (by rw [HI.out.1.2.1]; omega)⟩
                go_wp2
                go_roundw
                case rel => exact ⟨a + 1, by omega, by go_num, _, HG2⟩
                case measure => simp [intOf]; omega
          · have ha1 : ¬ (a : Int) < 20 := by omega
            have HALL : Hid (∀ p, p < k → (sa.got p).length = sa.m) := Lib.hid fun p hp => HA.out.1.1.gotAll HA.out.2 (by have := HA.out.1.1.m20; omega) (by rw [HA.out.1.2.1]; exact hp)
            have HREL3 : Hid (CRel w wr t k sa) := Lib.hid HA.out.1
            have HM20 : Hid (sa.m ≤ 20) := Lib.hid HA.out.1.1.m20
            have HN : Hid (sa.n = k) := Lib.hid HA.out.1.2.1
            have HG0 := Lib.hid (got_any _ _ t sa HREL3.out.2.2.1 HREL3.out.1 0)
            have e0 : sa.gotOf 0 = sa.got 0 := by
              unfold CNet.gotOf; rw [if_pos ((sa.is_iff 0).2 ⟨0, rfl, by rw [HN.out]; omega⟩)]; rfl
            rw [e0] at HG0
            obtain ⟨m, HM⟩ : ∃ m, Hid (sa.m = m) := ⟨_, Lib.hid rfl⟩
            rw [HM.out] at HALL HM20
            obtain ⟨l0, HL0⟩ : ∃ l, Hid (sa.got 0 = l) := ⟨_, Lib.hid rfl⟩
            rw [HL0.out] at HG0
            have HLL : Hid (l0.length = m) := Lib.hid (by rw [← HL0.out]; exact HALL.out 0 (by omega))
            clear HA ha ha20 e0
            go_wp2_with fail
            refine HG0.out.mono ?_
            rintro e wg ⟨vg, rfl, hown, hc⟩
            obtain ⟨va, vc, rfl⟩ := owns_val hown
            rw [HLL.out]
            have HREL4 := Lib.hid (HREL3.out.keep hc)
            clear hown hc HG0
            go_wp2_with fail
            go_loopw [12] (fun i wr => ∃ p : Nat, p ≤ k ∧ i = .int .i64 p ∧ Hid (CRel w wr t k sa)) (fun i _ => k - (intOf i).toNat)
            case atStart => exact ⟨0, Nat.zero_le _, rfl, HREL4⟩
            case round =>
              clear HREL3 HREL4
              obtain ⟨p, hpk, rfl, HP⟩ := hrel
              by_cases hp : p < k
              · have hp1 : (p : Int) < k := by omega
                have HGP := Lib.hid (got_any _ _ t sa HP.out.2.2.1 HP.out.1 p)
                have e0 : sa.gotOf p = sa.got p := by
                  unfold CNet.gotOf; rw [if_pos ((sa.is_iff p).2 ⟨p, rfl, by rw [HN.out]; omega⟩), Int.toNat_natCast]
                rw [e0] at HGP
                obtain ⟨lp, HLP⟩ : ∃ l, Hid (sa.got p = l) := ⟨_, Lib.hid rfl⟩
                rw [HLP.out] at HGP
                have HLE : Hid (lp.length = m) := Lib.hid (by rw [← HLP.out]; exact HALL.out p hp)
                have hmm : ((m : Int) != m) = false := by simp
                clear e0
                go_wp2_with fail
                refine HGP.out.mono ?_
                rintro e wq ⟨vq, rfl, hown, hc⟩
                obtain ⟨va, vc, rfl⟩ := owns_val hown
                rw [HLE.out]
                have HP2 := Lib.hid (HP.out.keep hc)
                clear hown hc HGP
                go_wp2
                go_roundw
                case rel => exact ⟨p + 1, by omega, by go_num, HP2⟩
                case measure => simp [intOf]; omega
              · have hp1 : ¬ (p : Int) < k := by omega
                have HNT := Lib.hid (note_any _ _ t sa HP.out.2.2.1 HP.out.1 m)
                have e1 : sa.byOf m = -1 := by
                  unfold CNet.byOf; rw [if_neg]
                  intro hh
                  obtain ⟨q, e, hq⟩ := (sa.isNote_iff m).1 hh
                  rw [HM.out] at hq; omega
                rw [e1] at HNT
                clear e1 hp hpk
                go_wp2_with fail
                refine HNT.out.mono ?_
                rintro e wz ⟨vz, rfl, _, hc⟩
                have HEND := Lib.hid (HP.out.2.2.2.trans hc.ofNo)
                clear hc HNT
                go_wp2
                go_ret
                exact ⟨rfl, HEND.out⟩

end Go.Proofs.YtiakkhahohhpaaaDoor
