/-
  The walk of SkeenGoes: behind whatever happened, if all notes are heard of and fixed everywhere, all nodes have all.
  Conditions: the steps are read as lists of integers.
-/
import Derived.Test.YthieompmmpbioaaSkH
namespace Go.Proofs.Ythieompmmpbioaa
open Go Go.RowKit

set_option maxHeartbeats 8000000 in
set_option maxRecDepth 100000 in
theorem goes_walk (n : Int) (v : Value) (ll : List (List Int)) (w : World) (hr : Rd2 (fun k => k < w.heap.size) w v ll) (hlb : ll.length ≤ 9223372036854775807) :
    Calls Try.prog 4 #[.int .i64 n, v] w fun e w' => e = .returned (.bool true) ∧ Chg (NewB w) w w' := by
  have HR := Lib.hid hr
  clear hr
  go_enter Try.func4, Try.ntmps4
  go_wp2_with fail
  refine (skeenFact_any w).mono ?_
  rintro e w1 ⟨rfl, hc1⟩
  go_wp2_with fail
  refine (new_any n w1).mono ?_
  rintro e w2 ⟨hc2, hnew⟩
  have HC1 := Lib.hid hc1
  have HC2 := Lib.hid hc2
  clear hc1 hc2
  rcases hnew with ⟨hbad, rfl⟩ | ⟨k, rfl, hk1, hk4, t, g, rfl, hin⟩
  · have hb : decide (n < 1) = true ∨ (decide (n < 1) = false ∧ decide (4 < n) = true) := by
      rcases Bool.and_eq_false_iff.1 hbad with h | h
      · left; rw [decide_eq_true_eq]; have := of_decide_eq_false h; omega
      · by_cases h1 : n < 1
        · left; rw [decide_eq_true_eq]; exact h1
        · right; rw [decide_eq_true_eq, decide_eq_false_iff_not]; have := of_decide_eq_false h; omega
    rw [show errV 1 = .iface 57 (.int .i64 1) from rfl]
    clear hbad
    rcases hb with hb | ⟨hb1, hb2⟩
    · go_wp2
      go_ret
      exact ⟨rfl, (HC1.out.trans HC2.out).ofNo⟩
    · go_wp2
      go_ret
      exact ⟨rfl, (HC1.out.trans HC2.out).ofNo⟩
  have HREL : Hid (SRel w w2 t g k (SNet.init k)) := Lib.hid (SRel.start hk1 hk4 HC1.out HC2.out hin)
  clear hin
  obtain ⟨pv, cv, rfl⟩ := HR.out.val
  obtain ⟨sl, hSL⟩ : ∃ sl, Hid (ll.length = sl) := ⟨_, Lib.hid rfl⟩
  rw [hSL.out] at hlb HR ⊢
  go_wp2_with fail
  go_loopw [8] (fun i wr => ∃ j : Nat, j ≤ sl ∧ j ≤ 100 ∧ i = .int .i64 j ∧ ∃ s, Hid (SRel w wr t g k s)) (fun i _ => 100 - (intOf i).toNat)
  case atStart => exact ⟨0, Nat.zero_le _, Nat.zero_le _, rfl, _, HREL⟩
  case round =>
    clear HREL
    obtain ⟨j, hjsl, hj150, rfl, s, HT⟩ := hrel
    by_cases hlt : j < sl ∧ j < 100
    · obtain ⟨hlt1, hlt2⟩ := hlt
      obtain ⟨b, off, c, u, e1, hcell, hrow, hrl⟩ := HR.out.at HT.out.2.2.2 (fun b hb hn => hn hb) (j := j) (by rw [hSL.out]; exact hlt1)
      simp only [Value.slice.injEq] at e1
      obtain ⟨rfl, -, rfl⟩ := e1
      have hj1 : (j : Int) < sl := by omega
      have hj2 : (j : Int) < 100 := by omega
      have HG := Lib.hid (does_any _ _ t g s HT.out.2.2.1 HT.out.1 (fun b hb => Nat.lt_of_lt_of_le hb HT.out.2.2.2.size) _ _ hrow)
      clear hrow hrl
      go_wp2_with fail
      refine HG.out.mono ?_
      rintro e w1 ⟨rfl, hin, hcc⟩
      have HT2 : Hid (SRel w w1 t g k (s.act (ll.getD j []))) := Lib.hid (HT.out.step (HT.out.1.act _) (s.act_n _) hin hcc)
      clear hin hcc HG hcell
      go_wp2
      go_roundw
      case rel => exact ⟨j + 1, by omega, by omega, by go_num, _, HT2⟩
      case measure => simp [intOf]; omega
    · have HREL2 : Hid (SRel w _ t g k s ∧ HeardTo 0 0 s) := Lib.hid ⟨HT.out, heard_start s⟩
      have hb : ¬ (j : Int) < sl ∨ ((j : Int) < sl ∧ ¬ (j : Int) < 100) := by omega
      clear hlt HT
      rcases hb with hb | ⟨hb1, hb2⟩
      all_goals
        go_wp2_with fail
        go_loopw [9] (fun i wr => ∃ a : Nat, a ≤ 20 ∧ i = .int .i64 a ∧ ∃ s, Hid (SRel w wr t g k s ∧ HeardTo a 0 s)) (fun i _ => 20 - (intOf i).toNat)
        case atStart => exact ⟨0, Nat.zero_le _, rfl, s, HREL2⟩
        case round =>
          clear HREL2
          obtain ⟨a, ha20, rfl, sa, HG⟩ := hrel
          by_cases ha : a < 20
          · have ha1 : (a : Int) < 20 := by omega
            go_wp2_with fail
            go_loopw [10] (fun i wr => ∃ p : Nat, p ≤ k ∧ i = .int .i64 p ∧ ∃ s, Hid (SRel w wr t g k s ∧ HeardTo a p s)) (fun i _ => k - (intOf i).toNat)
            case atStart => exact ⟨0, Nat.zero_le _, rfl, _, HG⟩
            case round =>
              clear HG
              obtain ⟨p, hpk, rfl, sp, HI⟩ := hrel
              by_cases hp : p < k
              · have hp1 : (p : Int) < k := by omega
                have HST := Lib.hid (hear_any _ _ t g sp HI.out.1.2.2.1 HI.out.1.1.toSPre p a)
                go_wp2_with fail
                refine HST.out.mono ?_
                rintro e wc ⟨rfl, hin, hc⟩
                have HI2 : Hid (SRel w wc t g k (sp.hear p a) ∧ HeardTo a (p + 1) (sp.hear p a)) := Lib.hid ⟨HI.out.1.step (HI.out.1.1.hear p a) (sp.hear_n _ _) hin hc, heard_next HI.out.2⟩
                clear hin hc HST
                go_wp2
                go_roundw
                case rel => exact ⟨p + 1, by omega, by go_num, _, HI2⟩
                case measure => simp [intOf]; omega
              · have hp1 : ¬ (p : Int) < k := by omega
                have HG2 : Hid (SRel w _ t g k sp ∧ HeardTo (a + 1) 0 sp) := Lib.hid ⟨HI.out.1, heard_row HI.out.2 (by rw [HI.out.1.2.1]; omega)⟩
                go_wp2
                go_roundw
                case rel => exact ⟨a + 1, by omega, by go_num, _, HG2⟩
                case measure => simp [intOf]; omega
          · have ha1 : ¬ (a : Int) < 20 := by omega
            have HREL3 : Hid (SRel w _ t g k sa ∧ FixedTo 0 0 sa) := Lib.hid ⟨HG.out.1, fixed_start (heard_all HG.out.2 (by have := HG.out.1.1.m20; omega))⟩
            clear HG
            go_wp2_with fail
            go_loopw [11] (fun i wr => ∃ a : Nat, a ≤ 20 ∧ i = .int .i64 a ∧ ∃ s, Hid (SRel w wr t g k s ∧ FixedTo a 0 s)) (fun i _ => 20 - (intOf i).toNat)
            case atStart => exact ⟨0, Nat.zero_le _, rfl, _, HREL3⟩
            case round =>
              clear HREL3
              obtain ⟨d, hd20, rfl, sd, HG⟩ := hrel
              by_cases hd : d < 20
              · have hd1 : (d : Int) < 20 := by omega
                go_wp2_with fail
                go_loopw [12] (fun i wr => ∃ p : Nat, p ≤ k ∧ i = .int .i64 p ∧ ∃ s, Hid (SRel w wr t g k s ∧ FixedTo d p s)) (fun i _ => k - (intOf i).toNat)
                case atStart => exact ⟨0, Nat.zero_le _, rfl, _, HG⟩
                case round =>
                  clear HG
                  obtain ⟨p, hpk, rfl, sp, HI⟩ := hrel
                  by_cases hp : p < k
                  · have hp1 : (p : Int) < k := by omega
                    have HST := Lib.hid (fix_any _ _ t g sp HI.out.1.2.2.1 HI.out.1.1 p d)
                    go_wp2_with fail
                    refine HST.out.mono ?_
                    rintro e wc ⟨rfl, hin, hc⟩
                    have HI2 : Hid (SRel w wc t g k (sp.fixIt p d) ∧ FixedTo d (p + 1) (sp.fixIt p d)) := Lib.hid ⟨HI.out.1.step (HI.out.1.1.fixIt p d) (sp.fixIt_n _ _) hin hc, fixed_next HI.out.2⟩
                    clear hin hc HST
                    go_wp2
                    go_roundw
                    case rel => exact ⟨p + 1, by omega, by go_num, _, HI2⟩
                    case measure => simp [intOf]; omega
                  · have hp1 : ¬ (p : Int) < k := by omega
                    have HG2 : Hid (SRel w _ t g k sp ∧ FixedTo (d + 1) 0 sp) := Lib.hid ⟨HI.out.1, fixed_row HI.out.2 (by rw [HI.out.1.2.1]; omega)⟩
                    go_wp2
                    go_roundw
                    case rel => exact ⟨d + 1, by omega, by go_num, _, HG2⟩
                    case measure => simp [intOf]; omega
              · have hd1 : ¬ (d : Int) < 20 := by omega
                have hsd := HG.out.1.1
                have hdm : sd.m ≤ d := by have := hsd.m20; omega
                have hsn := HG.out.1.2.1
                have HLEN : Hid (∀ p : Nat, p < k → (sd.gotOf p).length = sd.m) := Lib.hid fun p hp => by
                  have hp' : p < sd.n := by rw [hsn]; exact hp
                  rw [sd.gotOf_at hp', hsd.gotAll HG.out.2 hdm hp']
                obtain ⟨mm, HMM⟩ : ∃ x, Hid (sd.m = x) := ⟨_, Lib.hid rfl⟩
                have HNO : Hid (sd.fixedAt 0 mm = false) := Lib.hid (sd.none_at HMM.out 0)
                rw [HMM.out] at HLEN
                have hmm : mm ≤ 20 := by have := hsd.m20; rw [HMM.out] at this; exact this
                have HGT := Lib.hid (got_any _ _ t g sd HG.out.1.2.2.1 hsd.toSPre 0)
                have HZ : Hid (SRel w _ t g k sd) := Lib.hid HG.out.1
                have HL0 : Hid ((sd.gotOf 0).length = mm) := Lib.hid (HLEN.out 0 (by omega))
                clear hsd hdm hsn HG
                go_wp2_with fail
                refine HGT.out.mono ?_
                rintro e wc ⟨v', rfl, hown, hc⟩
                rw [HL0.out] at hown
                obtain ⟨va, vc, rfl⟩ := owns_val hown
                have HZ2 : Hid (SRel w wc t g k sd) := Lib.hid (HZ.out.keep hc)
                clear hown hc HGT HZ
                go_wp2_with fail
                go_loopw [14] (fun i wr => ∃ p : Nat, p ≤ k ∧ i = .int .i64 p ∧ Hid (SRel w wr t g k sd)) (fun i _ => k - (intOf i).toNat)
                case atStart => exact ⟨0, Nat.zero_le _, rfl, HZ2⟩
                case round =>
                  clear HZ2
                  obtain ⟨p, hpk, rfl, HZ⟩ := hrel
                  by_cases hp : p < k
                  · have hp1 : (p : Int) < k := by omega
                    have HGT := Lib.hid (got_any _ _ t g sd HZ.out.2.2.1 HZ.out.1.toSPre p)
                    have HLP : Hid ((sd.gotOf p).length = mm) := Lib.hid (HLEN.out p hp)
                    go_wp2_with fail
                    refine HGT.out.mono ?_
                    rintro e wd ⟨v', rfl, hown, hc⟩
                    rw [HLP.out] at hown
                    obtain ⟨vb, vd, rfl⟩ := owns_val hown
                    have HZ3 : Hid (SRel w wd t g k sd) := Lib.hid (HZ.out.keep hc)
                    clear hown hc HGT HZ
                    have hbn : ((mm : Int) != mm) = false := by simp
                    go_wp2
                    go_roundw
                    case rel => exact ⟨p + 1, by omega, by go_num, HZ3⟩
                    case measure => simp [intOf]; omega
                  · have hp1 : ¬ (p : Int) < k := by omega
                    have HTM := Lib.hid (time_any _ _ t g sd HZ.out.2.2.1 HZ.out.1.toSPre 0 mm)
                    rw [HNO.out] at HTM
                    go_wp2_with fail
                    refine HTM.out.mono ?_
                    rintro e wd ⟨rfl, hc⟩
                    have HEND := Lib.hid (HZ.out.2.2.2.trans hc.ofNo)
                    clear hc HTM
                    go_wp2
                    go_ret
                    exact ⟨rfl, HEND.out⟩

end Go.Proofs.Ythieompmmpbioaa
