/-
  The walk of SkeenTime: where a note is fixed its time is the same at all nodes, and no less than at any where it is not yet.
  Conditions: the steps are read as lists of integers.
-/
import Derived.Test.YthieompmmpbioaaSkH
namespace Go.Proofs.Ythieompmmpbioaa
open Go Go.RowKit

set_option maxHeartbeats 8000000 in
set_option maxRecDepth 100000 in
theorem time_walk (n : Int) (v : Value) (ll : List (List Int)) (w : World) (hr : Rd2 (fun k => k < w.heap.size) w v ll) (hlb : ll.length ≤ 9223372036854775807) :
    Calls Try.prog 6 #[.int .i64 n, v] w fun e w' => e = .returned (.bool true) ∧ Chg (NewB w) w w' := by
  have HR := Lib.hid hr
  clear hr
  go_enter Try.func6, Try.ntmps6
  go_wp2_with fail
  refine (skeenFact_any w).mono ?_
  rintro e w1 ⟨rfl, hc1⟩
  go_wp2_with fail
  refine (new_any n w1).mono ?_
  rintro e w2 ⟨hc2, hnew⟩
  have HC1 := Lib.hid hc1
  have HC2 := Lib.hid hc2
  clear hc1 hc2
  rcases hnew with ⟨hbad, rfl⟩ | ⟨k, rfl, hk1, hk4, t, g, rfl, hin⟩
  · have hb : decide (n < 1) = true ∨ (decide (n < 1) = false ∧ decide (4 < n) = true) := by
      rcases Bool.and_eq_false_iff.1 hbad with h | h
      · left; rw [decide_eq_true_eq]; have := of_decide_eq_false h; omega
      · by_cases h1 : n < 1
        · left; rw [decide_eq_true_eq]; exact h1
        · right; rw [decide_eq_true_eq, decide_eq_false_iff_not]; have := of_decide_eq_false h; omega
    rw [show errV 1 = .iface 57 (.int .i64 1) from rfl]
    clear hbad
    rcases hb with hb | ⟨hb1, hb2⟩
    · go_wp2
      go_ret
      exact ⟨rfl, (HC1.out.trans HC2.out).ofNo⟩
    · go_wp2
      go_ret
      exact ⟨rfl, (HC1.out.trans HC2.out).ofNo⟩
  have HREL : Hid (SRel w w2 t g k (SNet.init k)) := Lib.hid (SRel.start hk1 hk4 HC1.out HC2.out hin)
  clear hin
  obtain ⟨pv, cv, rfl⟩ := HR.out.val
  obtain ⟨sl, hSL⟩ : ∃ sl, Hid (ll.length = sl) := ⟨_, Lib.hid rfl⟩
  rw [hSL.out] at hlb HR ⊢
  go_wp2_with fail
  go_loopw [8] (fun i wr => ∃ j : Nat, j ≤ sl ∧ j ≤ 150 ∧ i = .int .i64 j ∧ ∃ s, Hid (SRel w wr t g k s)) (fun i _ => 150 - (intOf i).toNat)
  case atStart => exact ⟨0, Nat.zero_le _, Nat.zero_le _, rfl, _, HREL⟩
  case round =>
    clear HREL
    obtain ⟨j, hjsl, hj150, rfl, s, HT⟩ := hrel
    by_cases hlt : j < sl ∧ j < 150
    · obtain ⟨hlt1, hlt2⟩ := hlt
      obtain ⟨b, off, c, u, e1, hcell, hrow, hrl⟩ := HR.out.at HT.out.2.2.2 (fun b hb hn => hn hb) (j := j) (by rw [hSL.out]; exact hlt1)
      simp only [Value.slice.injEq] at e1
      obtain ⟨rfl, -, rfl⟩ := e1
      have hj1 : (j : Int) < sl := by omega
      have hj2 : (j : Int) < 150 := by omega
      have HG := Lib.hid (does_any _ _ t g s HT.out.2.2.1 HT.out.1 (fun b hb => Nat.lt_of_lt_of_le hb HT.out.2.2.2.size) _ _ hrow)
      clear hrow hrl
      go_wp2_with fail
      refine HG.out.mono ?_
      rintro e w1 ⟨rfl, hin, hcc⟩
      have HT2 : Hid (SRel w w1 t g k (s.act (ll.getD j []))) := Lib.hid (HT.out.step (HT.out.1.act _) (s.act_n _) hin hcc)
      clear hin hcc HG hcell
      go_wp2
      go_roundw
      case rel => exact ⟨j + 1, by omega, by omega, by go_num, _, HT2⟩
      case measure => simp [intOf]; omega
    · have hb : ¬ (j : Int) < sl ∨ ((j : Int) < sl ∧ ¬ (j : Int) < 150) := by omega
      have HZ0 := Lib.hid HT.out
      clear hlt HT
      rcases hb with hb | ⟨hb1, hb2⟩
      all_goals
        go_wp2_with fail
        go_loopw [9] (fun i wr => ∃ a : Nat, a ≤ 20 ∧ i = .int .i64 a ∧ Hid (SRel w wr t g k s)) (fun i _ => 20 - (intOf i).toNat)
        case atStart => exact ⟨0, Nat.zero_le _, rfl, HZ0⟩
        case round =>
          clear HZ0
          obtain ⟨a, ha20, rfl, HZ⟩ := hrel
          by_cases ha : a < 20
          · have ha1 : (a : Int) < 20 := by omega
            go_wp2_with fail
            go_loopw [10] (fun i wr => ∃ p : Nat, p ≤ k ∧ i = .int .i64 p ∧ Hid (SRel w wr t g k s)) (fun i _ => k - (intOf i).toNat)
            case atStart => exact ⟨0, Nat.zero_le _, rfl, HZ⟩
            case round =>
              clear HZ
              obtain ⟨p, hpk, rfl, HZ⟩ := hrel
              by_cases hp : p < k
              · have hp1 : (p : Int) < k := by omega
                have HTM := Lib.hid (time_any _ _ t g s HZ.out.2.2.1 HZ.out.1.toSPre p a)
                have HALL : Hid (s.fixedAt p a = true → ∀ q : Nat, q < k → ¬ s.timeOf q a < 1 ∧ (s.fixedAt q a = true → s.timeOf p a = s.timeOf q a) ∧ ¬ s.timeOf p a < s.timeOf q a) := Lib.hid fun h q hq => HZ.out.1.toSPre.times a (by rw [HZ.out.2.1]; exact hp) (by rw [HZ.out.2.1]; exact hq) h
                obtain ⟨x, HX⟩ : ∃ x, Hid (s.timeOf p a = x) := ⟨_, Lib.hid rfl⟩
                obtain ⟨one, HONE⟩ : ∃ x, Hid (s.fixedAt p a = x) := ⟨_, Lib.hid rfl⟩
                rw [HX.out, HONE.out] at HTM HALL
                go_wp2_with fail
                refine HTM.out.mono ?_
                rintro e wc ⟨rfl, hc⟩
                have HZ2 := Lib.hid (HZ.out.keep hc)
                clear hc HTM HZ
                cases one with
                | false =>
                  go_wp2_with fail
                  go_loopw [13] (fun i wr => i = .int .i64 0 ∧ Hid (SRel w wr t g k s)) (fun i _ => k - (intOf i).toNat)
                  case atStart => exact ⟨rfl, HZ2⟩
                  case round =>
                    clear HZ2
                    obtain ⟨rfl, HZ⟩ := hrel
                    have hk0 : (0 : Int) < k := by omega
                    go_wp2
                    go_roundw
                    case rel => exact ⟨p + 1, by omega, by go_num, HZ⟩
                    case measure => simp [intOf]; omega
                | true =>
                  go_wp2_with fail
                  go_loopw [13] (fun i wr => ∃ q : Nat, q ≤ k ∧ i = .int .i64 q ∧ Hid (SRel w wr t g k s)) (fun i _ => k - (intOf i).toNat)
                  case atStart => exact ⟨0, Nat.zero_le _, rfl, HZ2⟩
                  case round =>
                    clear HZ2
                    obtain ⟨q, hqk, rfl, HZ⟩ := hrel
                    by_cases hq : q < k
                    · have hq1 : (q : Int) < k := by omega
                      have HTM := Lib.hid (time_any _ _ t g s HZ.out.2.2.1 HZ.out.1.toSPre q a)
                      obtain ⟨y, HY⟩ : ∃ x, Hid (s.timeOf q a = x) := ⟨_, Lib.hid rfl⟩
                      obtain ⟨two, HTWO⟩ : ∃ x, Hid (s.fixedAt q a = x) := ⟨_, Lib.hid rfl⟩
                      obtain ⟨h1, h2, h3⟩ := HALL.out (by simp) q hq
                      rw [HY.out] at h1 h2 h3 HTM
                      rw [HTWO.out] at HTM h2
                      have h4 : two = true → (x != y) = false := fun h => by rw [h2 h]; simp
                      clear h2
                      cases two with
                      | false =>
                        clear h4
                        go_wp2_with fail
                        refine HTM.out.mono ?_
                        rintro e wd ⟨rfl, hc⟩
                        have HZ3 := Lib.hid (HZ.out.keep hc)
                        clear hc HTM HZ
                        go_wp2
                        go_roundw
                        case rel => exact ⟨q + 1, by omega, by go_num, HZ3⟩
                        case measure => simp [intOf]; omega
                      | true =>
                        have h5 := h4 rfl
                        clear h4
                        go_wp2_with fail
                        refine HTM.out.mono ?_
                        rintro e wd ⟨rfl, hc⟩
                        have HZ3 := Lib.hid (HZ.out.keep hc)
                        clear hc HTM HZ
                        go_wp2
                        go_roundw
                        case rel => exact ⟨q + 1, by omega, by go_num, HZ3⟩
                        case measure => simp [intOf]; omega
                    · have hq1 : ¬ (q : Int) < k := by omega
                      go_wp2
                      go_roundw
                      case rel => exact ⟨p + 1, by omega, by go_num, HZ⟩
                      case measure => simp [intOf]; omega
              · have hp1 : ¬ (p : Int) < k := by omega
                go_wp2
                go_roundw
                case rel => exact ⟨a + 1, by omega, by go_num, HZ⟩
                case measure => simp [intOf]; omega
          · have ha1 : ¬ (a : Int) < 20 := by omega
            have HEND := Lib.hid HZ.out.2.2.2
            go_wp2
            go_ret
            exact ⟨rfl, HEND.out⟩

end Go.Proofs.Ythieompmmpbioaa
