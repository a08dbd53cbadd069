/-
  The law of who may move: always one, and never more than before.
  Conditions: package errors' variable errorType holds the handle of the type 'error'.
-/
import Derived.Test.YtghamcjcihiopaaDoorStE
import Derived.Test.YtghamcjcihiopaaDoorAs
namespace Go.Proofs.YtghamcjcihiopaaDoor
open Go Go.RowKit

set_option maxHeartbeats 4000000 in
set_option maxRecDepth 100000 in
theorem one_walk (S : Nat → Prop) (v : Value) (l : List Int) (kinds i : Int) (w : World) (hg : As.Met w) (hr : Rd S w v l) (hlb : l.length ≤ 9223372036854775807) (hk0 : -9223372036854775808 ≤ kinds) (hk1 : kinds ≤ 9223372036854775807) :
    Calls Tryd.prog 4 #[v, .int .i64 kinds, .int .i64 i] w fun e w' => e = .returned (.bool true) ∧ Chg NoF w w' := by
  have HG := Lib.hid hg
  have HR := Lib.hid hr
  have HF := Lib.hid (steadyFact_any w)
  by_cases h0 : stErr l kinds = 0
  case neg =>
    have HB := Lib.hid (fun w1 (h1 : Rd S w1 v l) => may_bad S v l kinds w1 h1 hlb hk0 hk1 h0)
    have hE : Hid (errV (stErr l kinds) = .iface 41 (.int .i64 (stErr l kinds))) := Lib.hid (by unfold errV; rw [if_neg h0])
    rw [hE.out] at HB
    obtain ⟨ec, hec⟩ : ∃ ec, Hid (stErr l kinds = ec) := ⟨_, Lib.hid rfl⟩
    rw [hec.out] at HB
    clear h0 hr hg
    go_enter Tryd.func4, Tryd.ntmps4
    go_wp2_with fail
    refine HF.out.mono ?_
    rintro e w1 ⟨rfl, hc1⟩
    have HC1 := Lib.hid hc1
    clear hc1
    go_wp2_with fail
    refine (HB.out w1 (HR.out.keep HC1.out fun _ _ => id)).mono ?_
    rintro e w2 ⟨rfl, rfl⟩
    go_wp2
    go_ret
    exact ⟨rfl, HC1.out⟩
  case pos =>
    have HH0 := Lib.hid h0
    obtain ⟨hg1, hg2, hg3, hg4, hg5⟩ := stErr_good h0
    have HB := Lib.hid (fun w1 (h1 : Rd S w1 v l) => may_good S v l kinds w1 h1 h0)
    obtain ⟨j0, hj0, hm0⟩ := mayB_exists l hg1
    have ha1 := setB_pos l.length hj0 hm0
    have ha2 := setB_lt (mayB l) l.length
    have HPop := Lib.hid (popF_setB (mayB l) l.length hg2)
    have HBitA := Lib.hid (fun j (hj : j < l.length) => bit_setB (mayB l) l.length j hg2 hj)
    have HMV := Lib.hid (fun w1 (h1 : Rd S w1 v l) => move_any S v l kinds i w1 h1 hlb hk0 hk1)
    obtain ⟨a, HA⟩ : ∃ a, Hid (setB (mayB l) l.length = a) := ⟨_, Lib.hid rfl⟩
    rw [HA.out] at HB ha1 ha2 HPop HBitA
    obtain ⟨pa, ca, rfl⟩ := hr.val
    have h32 : 2 ^ l.length ≤ 2 ^ 5 := Nat.pow_le_pow_right (by omega) hg2
    have HP2 := Lib.hid (fun w1 => pow2_any l.length w1 (by omega))
    obtain ⟨n, hN⟩ : ∃ n, Hid (l.length = n) := ⟨_, Lib.hid rfl⟩
    rw [hN.out] at HB HR HMV HP2 hg1 hg2 hg3 ha2 h32 HPop HBitA ⊢
    obtain ⟨p2, HPP⟩ : ∃ p2, Hid (2 ^ n = p2) := ⟨_, Lib.hid rfl⟩
    rw [HPP.out] at HP2 ha2 h32
    have hai1 : ¬ (a : Int) < 1 := by omega
    have hai2 : ¬ (p2 : Int) ≤ a := by omega
    have HA32 : Hid (a < 32) := Lib.hid (by omega)
    clear h0 hr hg hg5 hj0 hm0 ha1 ha2 h32
    go_enter Tryd.func4, Tryd.ntmps4
    go_wp2_with fail
    refine HF.out.mono ?_
    rintro e w1 ⟨rfl, hc1⟩
    have HC1 := Lib.hid hc1
    clear hc1
    go_wp2_with fail
    refine (HB.out w1 (HR.out.keep HC1.out fun _ _ => id)).mono ?_
    rintro e w2 ⟨rfl, hc⟩
    have HC2 := Lib.hid (HC1.out.trans hc)
    clear hc HC1 HB HF
    go_wp2_with fail
    refine (HP2.out w2).mono ?_
    rintro e w3 ⟨rfl, rfl⟩
    go_wp2_with fail
    refine (HMV.out w2 (HR.out.keep HC2.out fun _ _ => id)).mono ?_
    rintro e w4 ⟨vm, rfl, hc, hyes, hno⟩
    have HC4 := Lib.hid (HC2.out.trans hc)
    have HYES := Lib.hid hyes
    have HNO := Lib.hid hno
    clear hc hyes hno HC2 HMV HP2 hai2
    have hthree : (mvErr l kinds i = 1 ∧ inB i 0 ((n : Int) - 1) = false) ∨ (mvErr l kinds i = 7 ∧ inB i 0 ((n : Int) - 1) = true ∧ mayB l i.toNat = false) ∨ (mvErr l kinds i = 0 ∧ inB i 0 ((n : Int) - 1) = true ∧ mayB l i.toNat = true) := by
      unfold mvErr
      rw [if_neg (by rw [HH0.out]; simp), hN.out]
      cases h1 : inB i 0 ((n : Int) - 1) with
      | false => exact .inl ⟨by simp, rfl⟩
      | true =>
        cases h2 : mayB l i.toNat with
        | false => exact .inr (.inl ⟨by simp, rfl, rfl⟩)
        | true => exact .inr (.inr ⟨by simp, rfl, rfl⟩)
    rcases hthree with ⟨hm, hin⟩ | ⟨hm, hin, hmay⟩ | ⟨hm, hin, hmay⟩
    · rw [HNO.out (by rw [hm]; omega), hm]
      rw [show errV 1 = .iface 41 (.int .i64 1) from rfl]
      have HI := Lib.hid (lawIn_any i 0 ((n : Int) - 1) w4)
      rw [hin] at HI
      have hnw : wrap64 ((n : Int) - 1) = n - 1 := IntWalk.wrap64_in _ (by omega)
      clear hm HYES HNO hin
      go_wp2_with fail
      refine HI.out.mono ?_
      rintro e w5 ⟨rfl, rfl⟩
      go_wp2
      go_ret
      exact ⟨rfl, HC4.out⟩
    · rw [HNO.out (by rw [hm]; omega), hm]
      have HEr := Lib.hid (error_any 7 7 (by omega) (by omega) w4 (HG.out.no HC4.out))
      rw [show errV 7 = .iface 41 (.int .i64 7) from rfl] at HEr ⊢
      have HI := Lib.hid (lawIn_any i 0 ((n : Int) - 1) w4)
      rw [hin] at HI
      have hb : 0 ≤ i ∧ i ≤ (n : Int) - 1 := by simpa [inB] using hin
      obtain ⟨j, rfl⟩ := Int.eq_ofNat_of_zero_le hb.1
      have HBt := Lib.hid (bit_any a j (by have := HA32.out; omega) (by omega) w4)
      rw [HBitA.out j (by omega), show mayB l j = false by simpa using hmay] at HBt
      have hnw : wrap64 ((n : Int) - 1) = n - 1 := IntWalk.wrap64_in _ (by omega)
      clear hm HYES HNO hin hmay hb
      go_wp2_with fail
      refine HI.out.mono ?_
      rintro e w5 ⟨rfl, rfl⟩
      go_wp2_with fail
      refine HBt.out.mono ?_
      rintro e w5 ⟨rfl, rfl⟩
      go_wp2_with fail
      refine HEr.out.mono ?_
      rintro e w5 ⟨rfl, hc5⟩
      have HC5 := Lib.hid (HC4.out.trans hc5)
      clear hc5
      go_wp2
      go_ret
      exact ⟨rfl, HC5.out⟩
    · have hb : 0 ≤ i ∧ i ≤ (n : Int) - 1 := by simpa [inB] using hin
      obtain ⟨j, rfl⟩ := Int.eq_ofNat_of_zero_le hb.1
      have hjn : j < n := by omega
      rw [Int.toNat_natCast] at hmay HYES
      have hmd := moved_good HH0.out (show j < l.length by rw [hN.out]; exact hjn)
      have hml := moved_length l kinds j
      have hrm := HYES.out hm
      have HM2 := Lib.hid (may_good _ vm (moved l kinds j) kinds w4 hrm hmd)
      obtain ⟨j1, hj1, hm1⟩ := mayB_exists (moved l kinds j) (by rw [hml, hN.out]; exact hg1)
      have hb1 := setB_pos (moved l kinds j).length hj1 hm1
      have hb2 := setB_lt (mayB (moved l kinds j)) (moved l kinds j).length
      have HPopB := Lib.hid (popF_setB (mayB (moved l kinds j)) (moved l kinds j).length (by rw [hml, hN.out]; exact hg2))
      have HBitB := Lib.hid (fun j' (hj : j' < (moved l kinds j).length) => bit_setB (mayB (moved l kinds j)) (moved l kinds j).length j' (by rw [hml, hN.out]; exact hg2) hj)
      rw [hml, hN.out] at HM2 hb1 hb2 HPopB HBitB
      obtain ⟨b, HBB⟩ : ∃ b, Hid (setB (mayB (moved l kinds j)) n = b) := ⟨_, Lib.hid rfl⟩
      rw [HBB.out] at HM2 hb1 hb2 HPopB HBitB
      have hle := mayB_congr HH0.out (show j < l.length by rw [hN.out]; exact hjn) hmay
      rw [hN.out, ← HPop.out, ← HPopB.out] at hle
      have HUN : Hid (¬ 1 < popF 6 a → mayB (moved l kinds j) ((j + 1) % n) = true) := Lib.hid fun h => by
        rw [HPop.out] at h
        have hu : Uniq l j := ⟨by rw [hN.out]; exact hjn, hmay, by rw [hN.out]; exact cnt_uniq n (by omega) hjn hmay⟩
        have := (uniq_step HH0.out hu).2.1
        rw [hN.out] at this; exact this
      have h32 : 2 ^ n ≤ 2 ^ 5 := Nat.pow_le_pow_right (by omega) hg2
      have hb32 : b < 32 := by omega
      have HMa := Lib.hid (fun w1 => many_any a w1 (by have := HA32.out; omega))
      have HMb := Lib.hid (fun w1 => many_any b w1 (by omega))
      have HBt := Lib.hid (fun w1 => bit_any b ((j + 1) % n) (by omega) (by have := Nat.mod_lt (j + 1) (show 0 < n by omega); omega) w1)
      have hbb := HBitB.out ((j + 1) % n) (Nat.mod_lt _ (by omega))
      rw [hbb] at HBt
      obtain ⟨ma, hma⟩ : ∃ ma, Hid (popF 6 a = ma) := ⟨_, Lib.hid rfl⟩
      obtain ⟨mb, hmb⟩ : ∃ mb, Hid (popF 6 b = mb) := ⟨_, Lib.hid rfl⟩
      rw [hma.out] at HMa hle HUN
      rw [hmb.out] at HMb hle
      obtain ⟨bt, hbt⟩ : ∃ x, Hid (mayB (moved l kinds j) ((j + 1) % n) = x) := ⟨_, Lib.hid rfl⟩
      rw [hbt.out] at HBt HUN
      obtain ⟨jm, hjm⟩ : ∃ jm, Hid ((j + 1) % n = jm) := ⟨_, Lib.hid rfl⟩
      rw [hjm.out] at HBt
      have hjm2 : ((j : Int) + 1) % n = jm := by rw [← hjm.out]; push_cast; rfl
      have hn0 : ((n : Int) == 0) = false := by rw [beq_eq_false_iff_ne]; omega
      have hj2 : wrap64 ((j : Int) + 1) = j + 1 := IntWalk.wrap64_in _ (by omega)
      have hbi1 : ¬ (b : Int) < 1 := by omega
      have hmm : ¬ (ma : Int) < mb := by omega
      have hjv : (0 : Int) ≤ j := Int.natCast_nonneg j
      rw [hm, show errV 0 = .nilIface from rfl]
      obtain ⟨va, vc, rfl⟩ := hrm.val
      have hnz : n ≠ 0 := by omega
      clear hm HYES HNO hin hmay hb hrm hmd hml hj1 hm1 hb1 hb2 hle h32 hbb hb32 hjn
      go_wp2_with fail
      refine HM2.out.mono ?_
      rintro e w5 ⟨rfl, hc5⟩
      have HC5 := Lib.hid (HC4.out.trans hc5)
      clear hc5 HC4 HM2
      go_wp2_with fail
      refine (HMb.out w5).mono ?_
      rintro e w6 ⟨rfl, rfl⟩
      go_wp2_with fail
      refine (HMa.out w5).mono ?_
      rintro e w6 ⟨rfl, rfl⟩
      go_wp2_with fail
      refine (HMa.out w5).mono ?_
      rintro e w6 ⟨rfl, rfl⟩
      by_cases h1 : (1 : Int) < ma
      · go_wp2
        go_ret
        exact ⟨rfl, HC5.out⟩
      · have := HUN.out (by omega)
        subst this
        go_wp2_with fail
        refine (HBt.out w5).mono ?_
        rintro e w6 ⟨rfl, rfl⟩
        go_wp2
        go_ret
        exact ⟨rfl, HC5.out⟩
end Go.Proofs.YtghamcjcihiopaaDoor
