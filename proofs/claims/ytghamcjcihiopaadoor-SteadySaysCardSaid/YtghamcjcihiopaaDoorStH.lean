/-
  The law that tells all about a ring that comes to order: what is wrong, who may move, any move.
  Conditions: package errors' variable errorType holds the handle of the type 'error'.
-/
import Derived.Test.YtghamcjcihiopaaDoorStG
import Derived.Test.YtghamcjcihiopaaDoorAs
namespace Go.Proofs.YtghamcjcihiopaaDoor
open Go Go.RowKit

theorem stErr_rng (l : List Int) (kinds : Int) : 0 ≤ stErr l kinds ∧ stErr l kinds ≤ 5 := by
  unfold stErr
  (repeat' split) <;> omega

set_option maxHeartbeats 8000000 in
set_option maxRecDepth 100000 in
theorem says_walk (S : Nat → Prop) (v : Value) (l : List Int) (kinds i : Int) (w : World) (hg : As.Met w) (hr : Rd S w v l) (hlb : l.length ≤ 9223372036854775807) (hk0 : -9223372036854775808 ≤ kinds) (hk1 : kinds ≤ 9223372036854775807) :
    Calls Tryd.prog 3 #[v, .int .i64 kinds, .int .i64 i] w fun e w' => e = .returned (.bool true) ∧ Chg NoF w w' := by
  have HG := Lib.hid hg
  have HR := Lib.hid hr
  have HST := Lib.hid (fun w1 (h1 : Rd S w1 v l) => refStates_any S v l kinds w1 h1 hlb hk0 hk1)
  have HCK := Lib.hid (fun w1 (h1 : Rd S w1 v l) => check_any S v l kinds w1 h1 hlb hk0 hk1)
  have HMV := Lib.hid (fun w1 (h1 : Rd S w1 v l) => move_any S v l kinds i w1 h1 hlb hk0 hk1)
  obtain ⟨hs1, hs2⟩ := stErr_rng l kinds
  by_cases h0 : stErr l kinds = 0
  case neg =>
    have HB := Lib.hid (fun w1 (h1 : Rd S w1 v l) => may_bad S v l kinds w1 h1 hlb hk0 hk1 h0)
    have HM : Hid (mvErr l kinds i = stErr l kinds) := Lib.hid (by unfold mvErr; rw [if_pos h0])
    have HMN : Hid (mvErr l kinds i ≠ 0) := Lib.hid (by rw [HM.out]; exact h0)
    have hE : Hid (errV (stErr l kinds) = .iface 41 (.int .i64 (stErr l kinds))) := Lib.hid (by unfold errV; rw [if_neg h0])
    have HER := Lib.hid (fun w1 (h1 : As.Met w1) => error_any (stErr l kinds) (stErr l kinds) (by omega) (by omega) w1 h1)
    rw [hE.out] at HCK HB HER
    obtain ⟨ec, hec⟩ : ∃ ec, Hid (stErr l kinds = ec) := ⟨_, Lib.hid rfl⟩
    rw [hec.out] at HST HCK HB HER h0
    obtain ⟨pa, ca, rfl⟩ := hr.val
    obtain ⟨n, hN⟩ : ∃ n, Hid (l.length = n) := ⟨_, Lib.hid rfl⟩
    rw [hN.out] at HST HCK HB HR HMV hlb ⊢
    have hcz : (ec == 0) = false := by rw [beq_eq_false_iff_ne]; exact h0
    have HINT := Lib.hid (fun w1 => ints_any (fun _ => True) (.slice none 0 0) (.slice none 0 0) [] [] w1 (Rd.nil _ _) (Rd.nil _ _) (by simp) (by simp))
    have hn0 : (0 : Int) ≤ n := Int.natCast_nonneg n
    clear hr hg h0 hs1 hs2
    go_enter Tryd.func3, Tryd.ntmps3
    go_wp2_with fail
    refine (HST.out w HR.out).mono ?_
    rintro e w1 ⟨rfl, rfl⟩
    go_wp2_with fail
    refine (HCK.out _ HR.out).mono ?_
    rintro e w1 ⟨rfl, rfl⟩
    go_wp2_with fail
    refine (HER.out _ HG.out).mono ?_
    rintro e w1 ⟨rfl, hc⟩
    have HC1 := Lib.hid hc
    clear hc
    simp only [decide_true]
    go_wp2_with fail
    go_loopw [10, 9] (fun k st wr => k = .int .i64 0 ∧ st = .int .i64 0 ∧ Hid (w1 = wr)) (fun _ _ _ => 0)
    case atStart => exact ⟨rfl, rfl, Lib.hid rfl⟩
    case round =>
      obtain ⟨rfl, rfl, HWE⟩ := hrel
      have ew := HWE.out
      subst ew
      have hb : (0 : Int) < n ∨ ¬ (0 : Int) < n := by omega
      rcases hb with hb | hb
      all_goals
        go_wp2_with fail
        refine (HB.out _ (HR.out.keep HC1.out fun _ _ => id)).mono ?_
        rintro e w2 ⟨rfl, rfl⟩
        go_wp2_with fail
        refine (HER.out _ (HG.out.no HC1.out)).mono ?_
        rintro e w2 ⟨rfl, hc⟩
        have HC2 := Lib.hid (HC1.out.trans hc)
        clear hc
        simp only [decide_true]
        go_wp2_with fail
        refine (HMV.out _ (HR.out.keep HC2.out fun _ _ => id)).mono ?_
        rintro e w3 ⟨vm, rfl, hc, _, hno⟩
        have HC3 := Lib.hid (HC2.out.trans hc)
        have hvm := hno HMN.out
        subst hvm
        rw [HM.out, hE.out, hec.out]
        clear hc hno
        go_wp2_with fail
        refine (HER.out _ (HG.out.no HC3.out)).mono ?_
        rintro e w4 ⟨rfl, hc⟩
        have HC4 := Lib.hid (HC3.out.trans hc)
        clear hc
        simp only [decide_true]
        go_wp2_with fail
        refine (HINT.out _).mono ?_
        rintro e w5 ⟨rfl, kz, rfl⟩
        have HC5 := Lib.hid (HC4.out.drewN kz)
        go_wp2
        go_ret
        exact ⟨rfl, HC5.out⟩
  case pos =>
    have HH0 := Lib.hid h0
    obtain ⟨hg1, hg2, hg3, hg4, hg5⟩ := stErr_good h0
    have HB := Lib.hid (fun w1 (h1 : Rd S w1 v l) => may_good S v l kinds w1 h1 h0)
    have HRM := Lib.hid (fun w1 (h1 : Rd S w1 v l) j (hj : j < l.length) => refMay_any S v j l w1 hj hg2 h1)
    have HMD := Lib.hid (fun w1 (h1 : Rd S w1 v l) j (hj : j < l.length) => refMoved_any S v l kinds j w1 h1 h0 hj)
    have HE0 := Lib.hid (fun w1 (h1 : As.Met w1) => error_any 0 0 (by omega) (by omega) w1 h1)
    rw [show errV 0 = .nilIface from rfl] at HE0
    rw [h0] at HST HCK
    rw [show errV 0 = .nilIface from rfl] at HCK
    obtain ⟨pa, ca, rfl⟩ := hr.val
    obtain ⟨n, hN⟩ : ∃ n, Hid (l.length = n) := ⟨_, Lib.hid rfl⟩
    rw [hN.out] at HST HCK HB HR HMV HRM HMD hg1 hg2 hg3 hlb ⊢
    obtain ⟨f, hf⟩ : ∃ f, Hid (mayB l = f) := ⟨_, Lib.hid rfl⟩
    rw [hf.out] at HB HRM
    clear hr hg h0 hs1 hs2 hg5
    go_enter Tryd.func3, Tryd.ntmps3
    go_wp2_with fail
    refine (HST.out w HR.out).mono ?_
    rintro e w1 ⟨rfl, rfl⟩
    go_wp2_with fail
    refine (HCK.out _ HR.out).mono ?_
    rintro e w1 ⟨rfl, rfl⟩
    go_wp2_with fail
    refine (HE0.out _ HG.out).mono ?_
    rintro e w1 ⟨rfl, hc⟩
    have HC1 := Lib.hid hc
    clear hc
    simp only [decide_true]
    go_wp2_with fail
    go_loopw [10, 9] (fun k st wr => ∃ q : Nat, q ≤ n ∧ k = .int .i64 q ∧ st = .int .i64 (setB f q : Nat) ∧ Hid (Chg NoF w wr)) (fun k _ _ => n - (intOf k).toNat)
    case atStart => exact ⟨0, Nat.zero_le _, rfl, rfl, HC1⟩
    case round =>
      obtain ⟨q, hqn, rfl, rfl, HCW⟩ := hrel
      by_cases hlt : q < n
      · have hq1 : (q : Int) < n := by omega
        have HRq := Lib.hid (HRM.out wr (HR.out.keep HCW.out fun _ _ => id) q hlt)
        have HWI := Lib.hid (fun w1 => with_any (setB f q) q w1 (setB_lt f q) (by omega))
        have HQN : Hid (q + 1 ≤ n) := Lib.hid hlt
        have HS1 : Hid (setB f (q + 1) = setB f q + if f q then 2 ^ q else 0) := Lib.hid rfl
        obtain ⟨st, hst⟩ : ∃ st, Hid (setB f q = st) := ⟨_, Lib.hid rfl⟩
        rw [hst.out] at HWI HS1 ⊢
        obtain ⟨p2, hp2⟩ : ∃ p, Hid (2 ^ q = p) := ⟨_, Lib.hid rfl⟩
        rw [hp2.out] at HWI HS1
        clear hqn hlt
        cases hfq : f q with
        | true =>
          rw [hfq] at HRq HS1
          clear hfq
          go_wp2_with fail
          refine HRq.out.mono ?_
          rintro e w2 ⟨rfl, kk, rfl⟩
          go_wp2_with fail
          refine (HWI.out _).mono ?_
          rintro e w3 ⟨rfl, rfl⟩
          go_wp2
          go_roundw
          case rel => exact ⟨q + 1, HQN.out, by go_num, by rw [HS1.out]; simp, Lib.hid (HCW.out.drewN kk)⟩
          case measure => have := HQN.out; simp [intOf]; omega
        | false =>
          rw [hfq] at HRq HS1
          clear hfq
          go_wp2_with fail
          refine HRq.out.mono ?_
          rintro e w2 ⟨rfl, kk, rfl⟩
          go_wp2
          go_roundw
          case rel => exact ⟨q + 1, HQN.out, by go_num, by rw [HS1.out]; simp, Lib.hid (HCW.out.drewN kk)⟩
          case measure => have := HQN.out; simp [intOf]; omega
      · obtain rfl : q = n := by omega
        have hq1 : ¬ (q : Int) < q := by omega
        have hnw : wrap64 ((q : Int) - 1) = q - 1 := IntWalk.wrap64_in _ (by omega)
        obtain ⟨st, hst⟩ : ∃ st, Hid (setB f q = st) := ⟨_, Lib.hid rfl⟩
        rw [hst.out] at HB ⊢
        clear hlt hqn
        have hss : ((st : Int) == st) = true := by simp
        go_wp2_with fail
        refine (HB.out _ (HR.out.keep HCW.out fun _ _ => id)).mono ?_
        rintro e w2 ⟨rfl, hc⟩
        have HC2 := Lib.hid (HCW.out.trans hc)
        clear hc HCW
        go_wp2_with fail
        refine (HE0.out _ (HG.out.no HC2.out)).mono ?_
        rintro e w3 ⟨rfl, hc⟩
        have HC3 := Lib.hid (HC2.out.trans hc)
        clear hc HC2
        simp only [decide_true]
        have hthree : (mvErr l kinds i = 1 ∧ inB i 0 ((q : Int) - 1) = false) ∨ (mvErr l kinds i = 7 ∧ inB i 0 ((q : Int) - 1) = true ∧ mayB l i.toNat = false) ∨ (mvErr l kinds i = 0 ∧ inB i 0 ((q : Int) - 1) = true ∧ mayB l i.toNat = true) := by
          unfold mvErr
          rw [if_neg (by rw [HH0.out]; simp), hN.out]
          cases h1 : inB i 0 ((q : Int) - 1) with
          | false => exact .inl ⟨by simp, rfl⟩
          | true =>
            cases h2 : mayB l i.toNat with
            | false => exact .inr (.inl ⟨by simp, rfl, rfl⟩)
            | true => exact .inr (.inr ⟨by simp, rfl, rfl⟩)
        rcases hthree with ⟨hm, hin⟩ | ⟨hm, hin, hmay⟩ | ⟨hm, hin, hmay⟩
        · have HI := Lib.hid (lawIn_any i 0 ((q : Int) - 1) w3)
          rw [hin] at HI
          have HMM := Lib.hid hm
          have HEr := Lib.hid (fun w1 (h1 : As.Met w1) => error_any 1 1 (by omega) (by omega) w1 h1)
          have HINT := Lib.hid (fun w1 => ints_any (fun _ => True) (.slice none 0 0) (.slice none 0 0) [] [] w1 (Rd.nil _ _) (Rd.nil _ _) (by simp) (by simp))
          clear hm hin
          go_wp2_with fail
          refine HI.out.mono ?_
          rintro e w4 ⟨rfl, rfl⟩
          go_wp2_with fail
          refine (HMV.out _ (HR.out.keep HC3.out fun _ _ => id)).mono ?_
          rintro e w4 ⟨vm, rfl, hc, _, hno⟩
          have HC4 := Lib.hid (HC3.out.trans hc)
          have hvm := hno (by rw [HMM.out]; omega)
          subst hvm
          rw [HMM.out, show errV 1 = .iface 41 (.int .i64 1) from rfl]
          rw [show errV 1 = .iface 41 (.int .i64 1) from rfl] at HEr
          clear hc hno
          go_wp2_with fail
          refine (HEr.out _ (HG.out.no HC4.out)).mono ?_
          rintro e w5 ⟨rfl, hc⟩
          have HC5 := Lib.hid (HC4.out.trans hc)
          clear hc
          simp only [decide_true]
          go_wp2_with fail
          refine (HINT.out _).mono ?_
          rintro e w6 ⟨rfl, kz, rfl⟩
          have HC6 := Lib.hid (HC5.out.drewN kz)
          go_wp2
          go_ret
          exact ⟨rfl, HC6.out⟩
        · have HI := Lib.hid (lawIn_any i 0 ((q : Int) - 1) w3)
          rw [hin] at HI
          have HMM := Lib.hid hm
          have HEr := Lib.hid (fun w1 (h1 : As.Met w1) => error_any 7 7 (by omega) (by omega) w1 h1)
          have HINT := Lib.hid (fun w1 => ints_any (fun _ => True) (.slice none 0 0) (.slice none 0 0) [] [] w1 (Rd.nil _ _) (Rd.nil _ _) (by simp) (by simp))
          have hb : 0 ≤ i ∧ i ≤ (q : Int) - 1 := by simpa [inB] using hin
          obtain ⟨j, rfl⟩ := Int.eq_ofNat_of_zero_le hb.1
          have HRj := Lib.hid (HRM.out w3 (HR.out.keep HC3.out fun _ _ => id) j (by omega))
          rw [show f j = false by rw [← hf.out]; simpa using hmay] at HRj
          clear hm hin hmay hb
          go_wp2_with fail
          refine HI.out.mono ?_
          rintro e w4 ⟨rfl, rfl⟩
          go_wp2_with fail
          refine HRj.out.mono ?_
          rintro e w4 ⟨rfl, kk, rfl⟩
          have HC3b := Lib.hid (HC3.out.drewN kk)
          go_wp2_with fail
          refine (HMV.out _ (HR.out.keep HC3b.out fun _ _ => id)).mono ?_
          rintro e w4 ⟨vm, rfl, hc, _, hno⟩
          have HC4 := Lib.hid (HC3b.out.trans hc)
          have hvm := hno (by rw [HMM.out]; omega)
          subst hvm
          rw [HMM.out, show errV 7 = .iface 41 (.int .i64 7) from rfl]
          rw [show errV 7 = .iface 41 (.int .i64 7) from rfl] at HEr
          clear hc hno
          go_wp2_with fail
          refine (HEr.out _ (HG.out.no HC4.out)).mono ?_
          rintro e w5 ⟨rfl, hc⟩
          have HC5 := Lib.hid (HC4.out.trans hc)
          clear hc
          simp only [decide_true]
          go_wp2_with fail
          refine (HINT.out _).mono ?_
          rintro e w6 ⟨rfl, kz, rfl⟩
          have HC6 := Lib.hid (HC5.out.drewN kz)
          go_wp2
          go_ret
          exact ⟨rfl, HC6.out⟩
        · have HI := Lib.hid (lawIn_any i 0 ((q : Int) - 1) w3)
          rw [hin] at HI
          have HMM := Lib.hid hm
          have hb : 0 ≤ i ∧ i ≤ (q : Int) - 1 := by simpa [inB] using hin
          obtain ⟨j, rfl⟩ := Int.eq_ofNat_of_zero_le hb.1
          have HRj := Lib.hid (HRM.out w3 (HR.out.keep HC3.out fun _ _ => id) j (by omega))
          rw [show f j = true by rw [← hf.out]; simpa using hmay] at HRj
          have HMD2 := Lib.hid (fun w1 (h1 : Rd S w1 _ l) => HMD.out w1 h1 j (by omega))
          have hml := moved_length l kinds j
          have HML : Hid ((moved l kinds j).length ≤ 9223372036854775807) := Lib.hid (by rw [hml, hN.out]; omega)
          have hsame : decide (moved l kinds j = moved l kinds j) = true := by simp
          clear hm hin hmay hb hml
          go_wp2_with fail
          refine HI.out.mono ?_
          rintro e w4 ⟨rfl, rfl⟩
          go_wp2_with fail
          refine HRj.out.mono ?_
          rintro e w4 ⟨rfl, kk, rfl⟩
          have HC3b := Lib.hid (HC3.out.drewN kk)
          go_wp2_with fail
          refine (HMD2.out _ (HR.out.keep HC3b.out fun _ _ => id)).mono ?_
          rintro e w4 ⟨vd, rfl, hc, hrd⟩
          have HC4 := Lib.hid (HC3b.out.trans hc)
          have HRD := Lib.hid hrd
          clear hc hrd
          go_wp2_with fail
          refine (HMV.out _ (HR.out.keep HC4.out fun _ _ => id)).mono ?_
          rintro e w5 ⟨vm, rfl, hc, hyes, _⟩
          have HC5 := Lib.hid (HC4.out.trans hc)
          have HY := Lib.hid ((hyes HMM.out).mono (S' := fun _ => True) (fun _ _ _ => trivial))
          have HRD2 := Lib.hid (HRD.out.keep hc (fun _ _ h => h))
          rw [Int.toNat_natCast] at HY
          rw [HMM.out, show errV 0 = .nilIface from rfl]
          clear hc hyes
          go_wp2_with fail
          refine (HE0.out _ (HG.out.no HC5.out)).mono ?_
          rintro e w6 ⟨rfl, hc⟩
          have HC6 := Lib.hid (HC5.out.trans hc)
          have HINT := Lib.hid (ints_any (fun _ => True) vm vd _ _ w6 (HY.out.keep hc (fun _ _ h => h)) (HRD2.out.keep hc (fun _ _ h => h)) HML.out HML.out)
          clear hc
          simp only [decide_true]
          go_wp2_with fail
          refine HINT.out.mono ?_
          rintro e w7 ⟨rfl, kz, rfl⟩
          have HC7 := Lib.hid (HC6.out.drewN kz)
          go_wp2
          go_ret
          exact ⟨by simp, HC7.out⟩
end Go.Proofs.YtghamcjcihiopaaDoor
