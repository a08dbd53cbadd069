/-
  The walk of CalmGoes: behind whatever happened, if all stop, and all that is on all ways comes, node 0 says so.
  Conditions: the steps are read as lists of integers.
-/
import Derived.Test.YtbckjmbhipofaaaCaH
namespace Go.Proofs.Ytbckjmbhipofaaa
open Go Go.RowKit

theorem InRnd.mono {P : Int} {T T' : CNet → Prop} {s : CNet} (h : InRnd P T s) (hT : T s → T' s) : InRnd P T' s := by
  rcases h with h | h
  · exact .inl h
  · exact .inr ⟨h.1, hT h.2⟩

theorem tried_stop {p : Nat} : ∀ s, Tried p 0 s → s.stopErr p ≠ 0 → Tried1 p 0 s := fun s h he =>
  ⟨fun a ha => by
    by_cases e : a = p
    · subst e; exact he
    · exact h.1 a (by omega), h.2⟩

theorem tried_step {p q : Nat} : ∀ s, Tried1 p q s → s.stepErr p q ≠ 0 → Tried1 p (q + 1) s := fun s h he =>
  ⟨h.1, fun a b hb hab => by
    by_cases e : a = p ∧ b = q
    · obtain ⟨rfl, rfl⟩ := e; exact he
    · exact h.2 a b hb (by omega)⟩

theorem tried_row {p : Nat} {s : CNet} (h : Tried1 p s.n s) : Tried (p + 1) 0 s :=
  ⟨fun a ha => h.1 a (by omega), fun a b hb hab => h.2 a b hb (by omega)⟩

theorem rounds_in {r : Nat} {s : CNet} (h : Rounds r s) : ∃ P : Int, (P + r ≤ 61 ∨ P ≤ 0) ∧ InRnd P (Tried 0 0) s := by
  refine ⟨phi s, h, .inr ⟨Int.le_refl _, fun a ha => ?_, fun a b _ hab => ?_⟩⟩
  · omega
  · omega

theorem rounds_end {r : Nat} {s : CNet} (hb : CBnd s) (h : Rounds r s) (hr : 62 ≤ r) : Still s := by
  have := phi_nonneg s
  rcases h with h | h
  · omega
  · exact phi_still' hb h

set_option maxHeartbeats 8000000 in
set_option maxRecDepth 100000 in
theorem goes_walk (n : Int) (v : Value) (ll : List (List Int)) (w : World) (hr : Rd2 (fun k => k < w.heap.size) w v ll) (hlb : ll.length ≤ 9223372036854775807) :
    Calls Try.prog 3 #[.int .i64 n, v] w fun e w' => e = .returned (.bool true) ∧ Chg (NewB w) w w' := by
  have HR := Lib.hid hr
  clear hr
  go_enter Try.func3, Try.ntmps3
  go_wp2_with fail
  refine (calmFact_any w).mono ?_
  rintro e w1 ⟨rfl, hc1⟩
  go_wp2_with fail
  refine (new_any n w1).mono ?_
  rintro e w2 ⟨hc2, hnew⟩
  have HC1 := Lib.hid hc1
  have HC2 := Lib.hid hc2
  clear hc1 hc2
  rcases hnew with ⟨hbad, rfl⟩ | ⟨k, rfl, hk1, hk5, t, g, rfl, hin⟩
  · have hb : decide (n < 1) = true ∨ (decide (n < 1) = false ∧ decide (5 < n) = true) := by
      rcases Bool.and_eq_false_iff.1 hbad with h | h
      · left; rw [decide_eq_true_eq]; have := of_decide_eq_false h; omega
      · by_cases h1 : n < 1
        · left; rw [decide_eq_true_eq]; exact h1
        · right; rw [decide_eq_true_eq, decide_eq_false_iff_not]; have := of_decide_eq_false h; omega
    rw [show errV 1 = .iface 40 (.int .i64 1) from rfl]
    clear hbad
    rcases hb with hb | ⟨hb1, hb2⟩
    · go_wp2
      go_ret
      exact ⟨rfl, (HC1.out.trans HC2.out).ofNo⟩
    · go_wp2
      go_ret
      exact ⟨rfl, (HC1.out.trans HC2.out).ofNo⟩
  have HREL : Hid (CRel w w2 t g k (CNet.init k)) := Lib.hid ⟨CBnd.start hk1 hk5, rfl, hin.mono (fun b hb => Nat.lt_of_lt_of_le hb HC1.out.size), (HC1.out.trans HC2.out).ofNo⟩
  clear hin
  obtain ⟨pv, cv, rfl⟩ := HR.out.val
  obtain ⟨sl, hSL⟩ : ∃ sl, Hid (ll.length = sl) := ⟨_, Lib.hid rfl⟩
  rw [hSL.out] at hlb HR ⊢
  go_wp2_with fail
  go_loopw [8] (fun i wr => ∃ j : Nat, j ≤ sl ∧ j ≤ 150 ∧ i = .int .i64 j ∧ ∃ s, Hid (CRel w wr t g k s)) (fun i _ => 150 - (intOf i).toNat)
  case atStart => exact ⟨0, Nat.zero_le _, Nat.zero_le _, rfl, _, HREL⟩
  case round =>
    obtain ⟨j, hjsl, hj150, rfl, s, HS⟩ := hrel
    by_cases hlt : j < sl ∧ j < 150
    · obtain ⟨hlt1, hlt2⟩ := hlt
      obtain ⟨b, off, c, u, e1, hcell, hrow, hrl⟩ := HR.out.at HS.out.2.2.2 (fun b hb hn => hn hb) (j := j) (by rw [hSL.out]; exact hlt1)
      simp only [Value.slice.injEq] at e1
      obtain ⟨rfl, -, rfl⟩ := e1
      have hj1 : (j : Int) < sl := by omega
      have hj2 : (j : Int) < 150 := by omega
      have HA := Lib.hid (acts_any _ _ t g s HS.out.2.2.1 HS.out.1.sane u _ hrow hrl)
      have HJ : Hid (j < sl ∧ j < 150) := Lib.hid ⟨hlt1, hlt2⟩
      clear hrow hrl
      go_wp2_with fail
      refine HA.out.mono ?_
      rintro e wa ⟨rfl, hin, hc⟩
      have HS2 := Lib.hid (HS.out.act _ hin hc)
      clear hin hc HA hcell
      go_wp2
      go_roundw
      case rel => exact ⟨j + 1, by omega, by omega, by go_num, _, HS2⟩
      case measure => simp [intOf]; omega
    · have HREL2 : Hid (CRel w _ t g k s ∧ Rounds 0 s) := Lib.hid ⟨HS.out, rounds_start HS.out.1⟩
      have hb : ¬ (j : Int) < sl ∨ ((j : Int) < sl ∧ ¬ (j : Int) < 150) := by omega
      clear hlt
      rcases hb with hb | ⟨hb1, hb2⟩
      all_goals
        go_wp2_with fail
        go_loopw [9] (fun i wr => ∃ r : Nat, r ≤ 120 ∧ i = .int .i64 r ∧ ∃ s, Hid (CRel w wr t g k s ∧ Rounds r s)) (fun i _ => 120 - (intOf i).toNat)
        case atStart => exact ⟨0, Nat.zero_le _, rfl, s, HREL2⟩
        case round =>
          obtain ⟨r, hr120, rfl, sr, HG⟩ := hrel
          by_cases hr : r < 120
          · obtain ⟨P, hP, hin0⟩ := rounds_in HG.out.2
            have HP := Lib.hid hP
            have HIN0 : Hid (CRel w _ t g k sr ∧ InRnd P (Tried 0 0) sr) := Lib.hid ⟨HG.out.1, hin0⟩
            have hr1 : (r : Int) < 120 := by omega
            clear hP hin0
            go_wp2_with fail
            go_loopw [10] (fun i wr => ∃ p : Nat, p ≤ k ∧ i = .int .i64 p ∧ ∃ s, Hid (CRel w wr t g k s ∧ InRnd P (Tried p 0) s)) (fun i _ => k - (intOf i).toNat)
            case atStart => exact ⟨0, Nat.zero_le _, rfl, sr, HIN0⟩
            case round =>
              obtain ⟨p, hpk, rfl, sp, HI⟩ := hrel
              by_cases hp : p < k
              · have hp1 : (p : Int) < k := by omega
                have HST := Lib.hid (stop_any _ _ t g sp HI.out.1.2.2.1 HI.out.1.1.sane p)
                go_wp2_with fail
                refine HST.out.mono ?_
                rintro e wc ⟨rfl, hin, hc⟩
                have HI2 := Lib.hid (HI.out.1.stopIn HI.out.2 p tried_stop hin hc)
                clear hin hc HST
                go_wp2_with fail
                go_loopw [11] (fun i wr => ∃ q : Nat, q ≤ k ∧ i = .int .i64 q ∧ ∃ s, Hid (CRel w wr t g k s ∧ InRnd P (Tried1 p q) s)) (fun i _ => k - (intOf i).toNat)
                case atStart => exact ⟨0, Nat.zero_le _, rfl, _, HI2⟩
                case round =>
                  obtain ⟨q, hqk, rfl, sq, HQ⟩ := hrel
                  by_cases hq : q < k
                  · have hq1 : (q : Int) < k := by omega
                    have HST := Lib.hid (step_any _ _ t g sq HQ.out.1.2.2.1 HQ.out.1.1.sane p q)
                    go_wp2_with fail
                    refine HST.out.mono ?_
                    rintro e wd ⟨rfl, hin, hc⟩
                    have HQ2 := Lib.hid (HQ.out.1.stepIn HQ.out.2 p q tried_step hin hc)
                    clear hin hc HST
                    go_wp2
                    go_roundw
                    case rel => exact ⟨q + 1, by omega, by go_num, _, HQ2⟩
                    case measure => simp [intOf]; omega
                  · have hq1 : ¬ (q : Int) < k := by omega
                    have HI3 : Hid (CRel w _ t g k sq ∧ InRnd P (Tried (p + 1) 0) sq) := Lib.hid ⟨HQ.out.1, HQ.out.2.mono fun h => tried_row (by rw [HQ.out.1.2.1, show k = q by omega]; exact h)⟩
                    go_wp2
                    go_roundw
                    case rel => exact ⟨p + 1, by omega, by go_num, _, HI3⟩
                    case measure => simp [intOf]; omega
              · have hp1 : ¬ (p : Int) < k := by omega
                have HG2 : Hid (CRel w _ t g k sp ∧ Rounds (r + 1) sp) := Lib.hid ⟨HI.out.1, rounds_next HI.out.1.1 HP.out (HI.out.2.mono fun h => by rw [HI.out.1.2.1, show k = p by omega]; exact h)⟩
                go_wp2
                go_roundw
                case rel => exact ⟨r + 1, by omega, by go_num, _, HG2⟩
                case measure => simp [intOf]; omega
          · obtain rfl : r = 120 := by omega
            have hst := rounds_end HG.out.1.1 HG.out.2 (by omega)
            have hcl := (HG.out.1.1.inv.still hst.1 hst.2).1
            have HCA := Lib.hid (calm_any _ _ t g sr HG.out.1.2.2.1)
            rw [hcl] at HCA
            have HWO := Lib.hid (works_any _ _ t g sr HG.out.1.2.2.1 HG.out.1.1.inv.n1 HG.out.1.1.inv.n5)
            rw [wbits_zero hst.1] at HWO
            clear hst hcl
            go_wp2_with fail
            refine HCA.out.mono ?_
            rintro e w' ⟨rfl, rfl⟩
            go_wp2_with fail
            refine HWO.out.mono ?_
            rintro e w' ⟨rfl, hc⟩
            have HC := Lib.hid (HG.out.1.2.2.2.trans hc.ofNo)
            clear hc
            go_wp2
            go_ret
            exact ⟨rfl, HC.out⟩

end Go.Proofs.Ytbckjmbhipofaaa
