/-
  The walk of TokenGoes: behind whatever happened, if all that is on all ways comes, and who is in leaves, nobody asks any more.
  Conditions: the steps are read as lists of integers.
-/
import Derived.Test.YtbcekojnphjcmaaToH
namespace Go.Proofs.Ytbcekojnphjcmaa
open Go Go.RowKit

theorem still_state {s : TNet} (h : TInv s) (hs : Still s) {p : Nat} (hp : p < s.n) : s.stateOf p = 0 := by
  unfold TNet.stateOf
  rw [if_pos ((s.is_iff p).2 ⟨p, rfl, hp⟩), Int.toNat_natCast, hs.2.1 p hp, (h.still hs).1 p hp]; rfl

set_option maxHeartbeats 8000000 in
set_option maxRecDepth 100000 in
theorem goes_walk (n : Int) (v : Value) (ll : List (List Int)) (w : World) (hr : Rd2 (fun k => k < w.heap.size) w v ll) (hlb : ll.length ≤ 9223372036854775807) :
    Calls Try.prog 4 #[.int .i64 n, v] w fun e w' => e = .returned (.bool true) ∧ Chg (NewB w) w w' := by
  have HR := Lib.hid hr
  clear hr
  go_enter Try.func4, Try.ntmps4
  go_wp2_with fail
  refine (tokenFact_any w).mono ?_
  rintro e w1 ⟨rfl, hc1⟩
  go_wp2_with fail
  refine (new_any n w1).mono ?_
  rintro e w2 ⟨hc2, hnew⟩
  have HC1 := Lib.hid hc1
  have HC2 := Lib.hid hc2
  clear hc1 hc2
  rcases hnew with ⟨hbad, rfl⟩ | ⟨k, rfl, hk1, hk4, t, g, rfl, hin⟩
  · have hb : decide (n < 1) = true ∨ (decide (n < 1) = false ∧ decide (4 < n) = true) := by
      rcases Bool.and_eq_false_iff.1 hbad with h | h
      · left; rw [decide_eq_true_eq]; have := of_decide_eq_false h; omega
      · by_cases h1 : n < 1
        · left; rw [decide_eq_true_eq]; exact h1
        · right; rw [decide_eq_true_eq, decide_eq_false_iff_not]; have := of_decide_eq_false h; omega
    rw [show errV 1 = .iface 47 (.int .i64 1) from rfl]
    clear hbad
    rcases hb with hb | ⟨hb1, hb2⟩
    · go_wp2
      go_ret
      exact ⟨rfl, (HC1.out.trans HC2.out).ofNo⟩
    · go_wp2
      go_ret
      exact ⟨rfl, (HC1.out.trans HC2.out).ofNo⟩
  have HREL : Hid (TRel w w2 t g k (TNet.init k) ∧ kst (TNet.init k) ≤ 8) := Lib.hid ⟨TRel.start hk1 hk4 HC1.out HC2.out hin, (start_pots hk4).2⟩
  clear hin
  obtain ⟨pv, cv, rfl⟩ := HR.out.val
  obtain ⟨sl, hSL⟩ : ∃ sl, Hid (ll.length = sl) := ⟨_, Lib.hid rfl⟩
  rw [hSL.out] at hlb HR ⊢
  go_wp2_with fail
  go_loopw [8] (fun i wr => ∃ j : Nat, j ≤ sl ∧ j ≤ 150 ∧ i = .int .i64 j ∧ ∃ s, Hid (TRel w wr t g k s ∧ kst s ≤ 8 + j)) (fun i _ => 150 - (intOf i).toNat)
  case atStart => exact ⟨0, Nat.zero_le _, Nat.zero_le _, rfl, _, HREL⟩
  case round =>
    obtain ⟨j, hjsl, hj150, rfl, s, HT⟩ := hrel
    by_cases hlt : j < sl ∧ j < 150
    · obtain ⟨hlt1, hlt2⟩ := hlt
      obtain ⟨b, off, c, u, e1, hcell, hrow, hrl⟩ := HR.out.at HT.out.1.2.2.2.2 (fun b hb hn => hn hb) (j := j) (by rw [hSL.out]; exact hlt1)
      simp only [Value.slice.injEq] at e1
      obtain ⟨rfl, -, rfl⟩ := e1
      have hj1 : (j : Int) < sl := by omega
      have hj2 : (j : Int) < 150 := by omega
      have HG := Lib.hid (does_any _ _ t g s HT.out.1.2.2.2.1 HT.out.1.sane (fun b hb => Nat.lt_of_lt_of_le hb HT.out.1.2.2.2.2.size) _ _ hrow)
      clear hrow hrl
      go_wp2_with fail
      refine HG.out.mono ?_
      rintro e w1 ⟨rfl, hin, hcc⟩
      have HT2 : Hid (TRel w w1 t g k (s.act (ll.getD j [])) ∧ kst (s.act (ll.getD j [])) ≤ 8 + ((j + 1 : Nat) : Int)) := Lib.hid (by
        have h1 := HT.out.1.act (by have := HT.out.2; omega) _ hin hcc
        exact ⟨h1.1, by have := h1.2; have := HT.out.2; push_cast; omega⟩)
      clear hin hcc HG hcell
      go_wp2
      go_roundw
      case rel => exact ⟨j + 1, by omega, by omega, by go_num, _, HT2⟩
      case measure => simp [intOf]; omega
    · have HREL2 : Hid (TRel w _ t g k s ∧ Rounds 0 s) := Lib.hid ⟨HT.out.1, rounds_start HT.out.1.1.n4 (by have := HT.out.2; omega)⟩
      have hb : ¬ (j : Int) < sl ∨ ((j : Int) < sl ∧ ¬ (j : Int) < 150) := by omega
      clear hlt
      rcases hb with hb | ⟨hb1, hb2⟩
      all_goals
        go_wp2_with fail
        go_loopw [9] (fun i wr => ∃ r : Nat, r ≤ 170 ∧ i = .int .i64 r ∧ ∃ s, Hid (TRel w wr t g k s ∧ Rounds r s)) (fun i _ => 170 - (intOf i).toNat)
        case atStart => exact ⟨0, Nat.zero_le _, rfl, s, HREL2⟩
        case round =>
          obtain ⟨r, hr170, rfl, sr, HG⟩ := hrel
          by_cases hr : r < 170
          · obtain ⟨P, hP, hin0⟩ := rounds_in HG.out.2
            have HP := Lib.hid hP
            have HIN : Hid (TRel w _ t g k sr ∧ InRnd P (fun _ => True) sr) := Lib.hid ⟨HG.out.1, hin0⟩
            have hr1 : (r : Int) < 170 := by omega
            clear hP hin0
            have HB := Lib.hid (bring_any _ _ t g sr HIN.out.1.2.2.2.1 HIN.out.1.sane)
            go_wp2_with fail
            refine HB.out.mono ?_
            rintro e wb ⟨rfl, hin, hc⟩
            have HIN0 : Hid (TRel w wb t g k sr.bring ∧ InRnd P (Tried 0 0) sr.bring) := Lib.hid ⟨(HIN.out.1.bring hin hc).1, HIN.out.2.bring HIN.out.1.1 tried_bring⟩
            clear hin hc HB
            go_wp2_with fail
            go_loopw [10] (fun i wr => ∃ p : Nat, p ≤ k ∧ i = .int .i64 p ∧ ∃ s, Hid (TRel w wr t g k s ∧ InRnd P (Tried p 0) s)) (fun i _ => k - (intOf i).toNat)
            case atStart => exact ⟨0, Nat.zero_le _, rfl, _, HIN0⟩
            case round =>
              obtain ⟨p, hpk, rfl, sp, HI⟩ := hrel
              by_cases hp : p < k
              · have hp1 : (p : Int) < k := by omega
                have HST := Lib.hid (leave_any _ _ t g sp HI.out.1.2.2.2.1 HI.out.1.sane p)
                go_wp2_with fail
                refine HST.out.mono ?_
                rintro e wc ⟨rfl, hin, hc⟩
                have HI2 : Hid (TRel w wc t g k (sp.leave p) ∧ InRnd P (Tried1 p 0) (sp.leave p)) := Lib.hid ⟨(HI.out.1.leave p hin hc).1, HI.out.2.leave HI.out.1.1 p tried_stop⟩
                clear hin hc HST
                go_wp2_with fail
                go_loopw [11] (fun i wr => ∃ q : Nat, q ≤ k ∧ i = .int .i64 q ∧ ∃ s, Hid (TRel w wr t g k s ∧ InRnd P (Tried1 p q) s)) (fun i _ => k - (intOf i).toNat)
                case atStart => exact ⟨0, Nat.zero_le _, rfl, _, HI2⟩
                case round =>
                  obtain ⟨q, hqk, rfl, sq, HQ⟩ := hrel
                  by_cases hq : q < k
                  · have hq1 : (q : Int) < k := by omega
                    have HST := Lib.hid (step_any _ _ t g sq HQ.out.1.2.2.2.1 HQ.out.1.sane p q)
                    go_wp2_with fail
                    refine HST.out.mono ?_
                    rintro e wd ⟨rfl, hin, hc⟩
                    have HQ2 : Hid (TRel w wd t g k (sq.step p q) ∧ InRnd P (Tried1 p (q + 1)) (sq.step p q)) := Lib.hid ⟨(HQ.out.1.step p q hin hc).1, HQ.out.2.step HQ.out.1.1 p q tried_step⟩
                    clear hin hc HST
                    go_wp2
                    go_roundw
                    case rel => exact ⟨q + 1, by omega, by go_num, _, HQ2⟩
                    case measure => simp [intOf]; omega
                  · have hq1 : ¬ (q : Int) < k := by omega
                    have HI3 : Hid (TRel w _ t g k sq ∧ InRnd P (Tried (p + 1) 0) sq) := Lib.hid ⟨HQ.out.1, HQ.out.2.mono fun h => tried_row (by rw [HQ.out.1.2.1, show k = q by omega]; exact h)⟩
                    go_wp2
                    go_roundw
                    case rel => exact ⟨p + 1, by omega, by go_num, _, HI3⟩
                    case measure => simp [intOf]; omega
              · have hp1 : ¬ (p : Int) < k := by omega
                have HG2 : Hid (TRel w _ t g k sp ∧ Rounds (r + 1) sp) := Lib.hid ⟨HI.out.1, rounds_next HI.out.1.1 HP.out (HI.out.2.mono fun h => by rw [HI.out.1.2.1, show k = p by omega]; exact h)⟩
                go_wp2
                go_roundw
                case rel => exact ⟨r + 1, by omega, by go_num, _, HG2⟩
                case measure => simp [intOf]; omega
          · have hr1 : ¬ (r : Int) < 170 := by omega
            have hst := rounds_end HG.out.1.1 HG.out.2 (by omega)
            have HZZ : Hid (∀ p : Nat, p < k → sr.stateOf p = 0) := Lib.hid fun p hp => still_state HG.out.1.1 hst (by rw [HG.out.1.2.1]; exact hp)
            have HREL3 := Lib.hid HG.out.1
            clear hst
            go_wp2_with fail
            go_loopw [12] (fun i wr => ∃ p : Nat, p ≤ k ∧ i = .int .i64 p ∧ Hid (TRel w wr t g k sr)) (fun i _ => k - (intOf i).toNat)
            case atStart => exact ⟨0, Nat.zero_le _, rfl, HREL3⟩
            case round =>
              obtain ⟨p, hpk, rfl, HZ⟩ := hrel
              by_cases hp : p < k
              · have hp1 : (p : Int) < k := by omega
                have HN := Lib.hid (state_any _ _ t g sr HZ.out.2.2.2.1 HZ.out.1.n1 p)
                rw [HZZ.out p hp] at HN
                go_wp2_with fail
                refine HN.out.mono ?_
                rintro e w' ⟨rfl, rfl⟩
                clear HN
                go_wp2
                go_roundw
                case rel => exact ⟨p + 1, by omega, by go_num, HZ⟩
                case measure => simp [intOf]; omega
              · have hp1 : ¬ (p : Int) < k := by omega
                go_wp2
                go_ret
                exact ⟨rfl, HZ.out.2.2.2.2⟩

end Go.Proofs.Ytbcekojnphjcmaa
