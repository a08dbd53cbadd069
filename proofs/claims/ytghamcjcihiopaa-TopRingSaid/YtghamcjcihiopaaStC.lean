/-
  The walk of SteadyComes: from any states, whoever moves, by 200 moves just one may move.
  Conditions: the states and the script are read as lists of integers; kinds fits an int.
-/
import Derived.Test.YtghamcjcihiopaaStMath
namespace Go.Proofs.Ytghamcjcihiopaa
open Go Go.RowKit

/-- What the inner loop knows: nobody up to k may move. -/
def NoneYet (l : List Int) (i k : Nat) : Prop := ∀ j, j < k → mayB l ((i + j) % l.length) = false

/-- Where the round's beginning is taken from. -/
def Picks (sc : List Int) (st n : Nat) (i : Nat) : Prop :=
  (st < sc.length ∧ inB (sc.getD st 0) 0 ((n : Int) - 1) = true ∧ sc.getD st 0 = i) ∨ (¬ (st < sc.length ∧ inB (sc.getD st 0) 0 ((n : Int) - 1) = true) ∧ i = st % n)

set_option maxHeartbeats 4000000 in
set_option maxRecDepth 100000 in
theorem comes_walk (S : Nat → Prop) (v sv : Value) (l sc : List Int) (kinds : Int) (w : World) (hr : Rd S w v l) (hs : Rd S w sv sc) (hlb : l.length ≤ 9223372036854775807) (hsb : sc.length ≤ 9223372036854775807) (hk0 : -9223372036854775808 ≤ kinds) (hk1 : kinds ≤ 9223372036854775807) :
    Calls Try.prog 3 #[v, .int .i64 kinds, sv] w fun e w' => e = .returned (.bool true) ∧ Chg NoF w w' := by
  by_cases h0 : stErr l kinds = 0
  case neg =>
    have hchk := Lib.hid (fun w1 (h1 : Rd S w1 v l) => check_any S v l kinds w1 h1 hlb hk0 hk1)
    have hE : Hid (errV (stErr l kinds) = .iface 35 (.int .i64 (stErr l kinds))) := Lib.hid (by unfold errV; rw [if_neg h0])
    have HR := Lib.hid hr
    rw [hE.out] at hchk
    obtain ⟨ec, hec⟩ : ∃ ec, Hid (stErr l kinds = ec) := ⟨_, Lib.hid rfl⟩
    rw [hec.out] at hchk
    clear h0 hr hs
    go_enter Try.func3, Try.ntmps3
    go_wp2_with fail
    refine (steadyFact_any w).mono ?_
    rintro e w1 ⟨rfl, hc1⟩
    go_wp2_with fail
    refine (hchk.out w1 (HR.out.keep hc1 fun _ _ => id)).mono ?_
    rintro e w2 ⟨rfl, rfl⟩
    go_wp2
    go_ret
    exact ⟨rfl, hc1⟩
  case pos =>
    obtain ⟨hg1, hg2, hg3, hg4, hg5⟩ := stErr_good h0
    have hchk := Lib.hid (fun w1 (h1 : Rd S w1 v l) => check_any S v l kinds w1 h1 hlb hk0 hk1)
    have hE : errV (stErr l kinds) = .nilIface := by unfold errV; rw [if_pos h0]
    rw [hE] at hchk
    have HR := Lib.hid hr
    have HS := Lib.hid hs
    have H0 := Lib.hid h0
    obtain ⟨pa, ca, rfl⟩ := hr.val
    clear h0 hr hs hE hg5
    obtain ⟨n, hN⟩ : ∃ n, Hid (l.length = n) := ⟨_, Lib.hid rfl⟩
    rw [hN.out] at hchk hg1 hg2 hg3 hlb HR ⊢
    go_enter Try.func3, Try.ntmps3
    go_wp2_with fail
    refine (steadyFact_any w).mono ?_
    rintro e w1 ⟨rfl, hc1⟩
    go_wp2_with fail
    refine (hchk.out w1 (HR.out.keep hc1 fun _ _ => id)).mono ?_
    rintro e w2 ⟨rfl, rfl⟩
    obtain ⟨ps, cs, rfl⟩ := HS.out.val
    obtain ⟨sl, hSL⟩ : ∃ sl, Hid (sc.length = sl) := ⟨_, Lib.hid rfl⟩
    rw [hSL.out] at hsb HS ⊢
    go_wp2_with fail
    go_loopw [9, 10] (fun nv i wr => ∃ k : Nat, k ≤ 200 ∧ i = .int .i64 k ∧ ∃ now, Hid (Reach kinds k l now) ∧ Hid (Rd (fun _ => True) wr nv now) ∧ Chg NoF w wr) (fun _ i _ => 200 - (intOf i).toNat)
    case atStart => exact ⟨0, Nat.zero_le _, rfl, l, Lib.hid rfl, Lib.hid ((HR.out.mono fun _ _ _ => trivial).keep hc1 fun _ _ => id), hc1⟩
    case round =>
      obtain ⟨k, hk200, rfl, now, HRe, HRn, hcw⟩ := hrel
      obtain ⟨hgn, hln⟩ := HRe.out.good H0.out
      have HGN := Lib.hid hgn
      have HLN : Hid (now.length = n) := Lib.hid (hln.trans hN.out)
      clear hgn hln
      by_cases hlt : k < 200
      · have key : ∃ i : Nat, i < n ∧ ((k < sl ∧ ∃ b off, ps = some ⟨b, off, none⟩ ∧ wr.cell? ⟨b, off + k, none⟩ = some (.int .i64 i)) ∨ (k < sl ∧ ∃ b off x, ps = some ⟨b, off, none⟩ ∧ wr.cell? ⟨b, off + k, none⟩ = some (.int .i64 x) ∧ inB x 0 ((n : Int) - 1) = false ∧ Hid (k % n = i)) ∨ (¬ k < sl ∧ Hid (k % n = i))) := by
          by_cases hks : k < sl
          · obtain ⟨b, off, c, e1, _, hc⟩ := HS.out.form (by rw [hSL.out]; omega)
            simp only [Value.slice.injEq] at e1
            have hcell := hcw.cell_some (hc k (by rw [hSL.out]; omega)) (fun h => h)
            cases hp : inB (sc.getD k 0) 0 ((n : Int) - 1) with
            | true =>
              have hb : 0 ≤ sc.getD k 0 ∧ sc.getD k 0 ≤ (n : Int) - 1 := by generalize sc.getD k 0 = x at *; simpa [inB] using hp
              exact ⟨(sc.getD k 0).toNat, by omega, .inl ⟨hks, b, off, e1.1, by rw [Int.toNat_of_nonneg hb.1]; exact hcell⟩⟩
            | false => exact ⟨k % n, Nat.mod_lt _ (by omega), .inr (.inl ⟨hks, b, off, _, e1.1, hcell, hp, Lib.hid rfl⟩)⟩
          · exact ⟨k % n, Nat.mod_lt _ (by omega), .inr (.inr ⟨hks, Lib.hid rfl⟩)⟩
        obtain ⟨i, hin, hcase⟩ := key
        have hn1 : (1 : Int) ≤ n := by omega
        have hkn : ((k : Int) % (n : Int)) = ((k % n : Nat) : Int) := by push_cast; rfl
        obtain ⟨km, hkm⟩ : ∃ km, Hid (k % n = km) := ⟨_, Lib.hid rfl⟩
        rw [hkm.out] at hkn hcase
        have hi0 : (0 : Int) ≤ i := by omega
        have hi1 : (i : Int) < n := by omega
        rcases hcase with ⟨hks, b, off, rfl, hcell⟩ | ⟨hks, b, off, x, rfl, hcell, hinx, hki⟩ | ⟨hks, hki⟩
        · have hini : inB i 0 ((n : Int) - 1) = true := by simp [inB]; omega
          have hks' : (k : Int) < sl := by omega
          go_wp2_with (go_at_call 7; refine (lawIn_any _ _ _ _).mono ?_; rintro e w' ⟨rfl, rfl⟩)
          go_loopw [9, 12] (fun nv' j wi => nv' = u9 ∧ ∃ q : Nat, q ≤ n ∧ j = .int .i64 q ∧ Hid (NoneYet now i q) ∧ Chg NoF wr wi) (fun _ j _ => n - (intOf j).toNat)
          case atStart => exact ⟨rfl, 0, Nat.zero_le _, rfl, Lib.hid (fun j hj => by omega), Chg.refl _ _⟩
          case round =>
            obtain ⟨rfl, q, hqn, rfl, HNy, hci⟩ := hrel
            have hfm : ¬ NoneYet now i n := fun hn => by
              obtain ⟨q', hq', hm⟩ := first_mover now (by rw [HLN.out]; omega) i
              rw [HLN.out] at hq'
              rw [hn q' hq'] at hm; cases hm
            have hq1 : q < n := Classical.byContradiction fun hn => hfm ((show q = n by omega) ▸ HNy.out)
            have HFM := Lib.hid hfm
            clear hfm
            obtain ⟨p, hpn, HPP⟩ : ∃ p, p < n ∧ Hid ((i + q) % n = p) := ⟨_, Nat.mod_lt _ (by omega), Lib.hid rfl⟩
            have hpi : ((i : Int) + q) % n = p := by rw [← HPP.out]; push_cast; rfl
            have HM := Lib.hid (move_any (fun _ => True) _ now kinds p _ (HRn.out.keep hci fun _ _ => id) (by rw [HLN.out]; omega) (by omega) (by omega))
            have hpos : inB (p : Int) 0 ((now.length : Int) - 1) = true := by rw [HLN.out]; simp [inB]; omega
            cases hmb : mayB now p with
            | true =>
              have hmv : mvErr now kinds p = 0 := by unfold mvErr; rw [if_neg (by simp [HGN.out]), if_neg (by simp [hpos]), if_neg (by simp [hmb])]
              have HMV := Lib.hid hmv
              have MB := Lib.hid hmb
              clear hmv hpos hmb
              go_wp2_with fail
              refine HM.out.mono ?_
              rintro e wm ⟨vm, rfl, hcm, hrm, _⟩
              have hrm2 := hrm HMV.out
              rw [HMV.out, show errV 0 = .nilIface from rfl]
              have HRM := Lib.hid hrm2
              clear hrm hrm2
              have hcwm : Chg NoF w wm := (hcw.trans hci).trans hcm
              clear HM
              go_wp2_with fail
              go_roundw
              case rel => exact ⟨k + 1, by omega, by go_num, moved now kinds p, Lib.hid ⟨now, HRe.out, p, by rw [HLN.out]; exact hpn, MB.out, rfl⟩, Lib.hid (HRM.out.mono fun _ _ _ => trivial), hcwm⟩
              case measure => simp [intOf]; omega
            | false =>
              have hmv : mvErr now kinds p = 7 := by unfold mvErr; rw [if_neg (by simp [HGN.out]), if_neg (by simp [hpos]), if_pos (by simp [hmb])]
              have HMV := Lib.hid hmv
              have HNy' : Hid (NoneYet now i (q + 1)) := Lib.hid fun j hj => by
                by_cases e : j = q
                · subst e; rw [HLN.out, HPP.out]; exact hmb
                · exact HNy.out j (by omega)
              have hq2 : q + 1 < n := Classical.byContradiction fun hn => HFM.out ((show q + 1 = n by omega) ▸ HNy'.out)
              have hq3 : ((q : Int) == (n : Int) - 1) = false := by simp; omega
              clear hmv hpos hmb
              go_wp2_with fail
              refine HM.out.mono ?_
              rintro e wm ⟨vm, rfl, hcm, _, hnil⟩
              rw [HMV.out, show errV 7 = .iface 35 (.int .i64 7) from rfl]
              clear hnil HM
              have hcim := hci.trans hcm
              go_wp2_with fail
              go_roundw
              case rel => exact ⟨rfl, q + 1, by omega, by go_num, HNy', hcim⟩
              case measure => simp [intOf]; omega
        · obtain rfl : i = km := hki.out.symm
          have hks' : (k : Int) < sl := by omega
          go_wp2_with (go_at_call 7; refine (lawIn_any _ _ _ _).mono ?_; rintro e w' ⟨rfl, rfl⟩)
          go_loopw [9, 12] (fun nv' j wi => nv' = u9 ∧ ∃ q : Nat, q ≤ n ∧ j = .int .i64 q ∧ Hid (NoneYet now i q) ∧ Chg NoF wr wi) (fun _ j _ => n - (intOf j).toNat)
          case atStart => exact ⟨rfl, 0, Nat.zero_le _, rfl, Lib.hid (fun j hj => by omega), Chg.refl _ _⟩
          case round =>
            obtain ⟨rfl, q, hqn, rfl, HNy, hci⟩ := hrel
            have hfm : ¬ NoneYet now i n := fun hn => by
              obtain ⟨q', hq', hm⟩ := first_mover now (by rw [HLN.out]; omega) i
              rw [HLN.out] at hq'
              rw [hn q' hq'] at hm; cases hm
            have hq1 : q < n := Classical.byContradiction fun hn => hfm ((show q = n by omega) ▸ HNy.out)
            have HFM := Lib.hid hfm
            clear hfm
            obtain ⟨p, hpn, HPP⟩ : ∃ p, p < n ∧ Hid ((i + q) % n = p) := ⟨_, Nat.mod_lt _ (by omega), Lib.hid rfl⟩
            have hpi : ((i : Int) + q) % n = p := by rw [← HPP.out]; push_cast; rfl
            have HM := Lib.hid (move_any (fun _ => True) _ now kinds p _ (HRn.out.keep hci fun _ _ => id) (by rw [HLN.out]; omega) (by omega) (by omega))
            have hpos : inB (p : Int) 0 ((now.length : Int) - 1) = true := by rw [HLN.out]; simp [inB]; omega
            cases hmb : mayB now p with
            | true =>
              have hmv : mvErr now kinds p = 0 := by unfold mvErr; rw [if_neg (by simp [HGN.out]), if_neg (by simp [hpos]), if_neg (by simp [hmb])]
              have HMV := Lib.hid hmv
              have MB := Lib.hid hmb
              clear hmv hpos hmb
              go_wp2_with fail
              refine HM.out.mono ?_
              rintro e wm ⟨vm, rfl, hcm, hrm, _⟩
              have hrm2 := hrm HMV.out
              rw [HMV.out, show errV 0 = .nilIface from rfl]
              have HRM := Lib.hid hrm2
              clear hrm hrm2
              have hcwm : Chg NoF w wm := (hcw.trans hci).trans hcm
              clear HM
              go_wp2_with fail
              go_roundw
              case rel => exact ⟨k + 1, by omega, by go_num, moved now kinds p, Lib.hid ⟨now, HRe.out, p, by rw [HLN.out]; exact hpn, MB.out, rfl⟩, Lib.hid (HRM.out.mono fun _ _ _ => trivial), hcwm⟩
              case measure => simp [intOf]; omega
            | false =>
              have hmv : mvErr now kinds p = 7 := by unfold mvErr; rw [if_neg (by simp [HGN.out]), if_neg (by simp [hpos]), if_pos (by simp [hmb])]
              have HMV := Lib.hid hmv
              have HNy' : Hid (NoneYet now i (q + 1)) := Lib.hid fun j hj => by
                by_cases e : j = q
                · subst e; rw [HLN.out, HPP.out]; exact hmb
                · exact HNy.out j (by omega)
              have hq2 : q + 1 < n := Classical.byContradiction fun hn => HFM.out ((show q + 1 = n by omega) ▸ HNy'.out)
              have hq3 : ((q : Int) == (n : Int) - 1) = false := by simp; omega
              clear hmv hpos hmb
              go_wp2_with fail
              refine HM.out.mono ?_
              rintro e wm ⟨vm, rfl, hcm, _, hnil⟩
              rw [HMV.out, show errV 7 = .iface 35 (.int .i64 7) from rfl]
              clear hnil HM
              have hcim := hci.trans hcm
              go_wp2_with fail
              go_roundw
              case rel => exact ⟨rfl, q + 1, by omega, by go_num, HNy', hcim⟩
              case measure => simp [intOf]; omega
        · obtain rfl : i = km := hki.out.symm
          have hks' : ¬ (k : Int) < sl := by omega
          go_wp2_with (go_at_call 7; refine (lawIn_any _ _ _ _).mono ?_; rintro e w' ⟨rfl, rfl⟩)
          go_loopw [9, 12] (fun nv' j wi => nv' = u9 ∧ ∃ q : Nat, q ≤ n ∧ j = .int .i64 q ∧ Hid (NoneYet now i q) ∧ Chg NoF wr wi) (fun _ j _ => n - (intOf j).toNat)
          case atStart => exact ⟨rfl, 0, Nat.zero_le _, rfl, Lib.hid (fun j hj => by omega), Chg.refl _ _⟩
          case round =>
            obtain ⟨rfl, q, hqn, rfl, HNy, hci⟩ := hrel
            have hfm : ¬ NoneYet now i n := fun hn => by
              obtain ⟨q', hq', hm⟩ := first_mover now (by rw [HLN.out]; omega) i
              rw [HLN.out] at hq'
              rw [hn q' hq'] at hm; cases hm
            have hq1 : q < n := Classical.byContradiction fun hn => hfm ((show q = n by omega) ▸ HNy.out)
            have HFM := Lib.hid hfm
            clear hfm
            obtain ⟨p, hpn, HPP⟩ : ∃ p, p < n ∧ Hid ((i + q) % n = p) := ⟨_, Nat.mod_lt _ (by omega), Lib.hid rfl⟩
            have hpi : ((i : Int) + q) % n = p := by rw [← HPP.out]; push_cast; rfl
            have HM := Lib.hid (move_any (fun _ => True) _ now kinds p _ (HRn.out.keep hci fun _ _ => id) (by rw [HLN.out]; omega) (by omega) (by omega))
            have hpos : inB (p : Int) 0 ((now.length : Int) - 1) = true := by rw [HLN.out]; simp [inB]; omega
            cases hmb : mayB now p with
            | true =>
              have hmv : mvErr now kinds p = 0 := by unfold mvErr; rw [if_neg (by simp [HGN.out]), if_neg (by simp [hpos]), if_neg (by simp [hmb])]
              have HMV := Lib.hid hmv
              have MB := Lib.hid hmb
              clear hmv hpos hmb
              go_wp2_with fail
              refine HM.out.mono ?_
              rintro e wm ⟨vm, rfl, hcm, hrm, _⟩
              have hrm2 := hrm HMV.out
              rw [HMV.out, show errV 0 = .nilIface from rfl]
              have HRM := Lib.hid hrm2
              clear hrm hrm2
              have hcwm : Chg NoF w wm := (hcw.trans hci).trans hcm
              clear HM
              go_wp2_with fail
              go_roundw
              case rel => exact ⟨k + 1, by omega, by go_num, moved now kinds p, Lib.hid ⟨now, HRe.out, p, by rw [HLN.out]; exact hpn, MB.out, rfl⟩, Lib.hid (HRM.out.mono fun _ _ _ => trivial), hcwm⟩
              case measure => simp [intOf]; omega
            | false =>
              have hmv : mvErr now kinds p = 7 := by unfold mvErr; rw [if_neg (by simp [HGN.out]), if_neg (by simp [hpos]), if_pos (by simp [hmb])]
              have HMV := Lib.hid hmv
              have HNy' : Hid (NoneYet now i (q + 1)) := Lib.hid fun j hj => by
                by_cases e : j = q
                · subst e; rw [HLN.out, HPP.out]; exact hmb
                · exact HNy.out j (by omega)
              have hq2 : q + 1 < n := Classical.byContradiction fun hn => HFM.out ((show q + 1 = n by omega) ▸ HNy'.out)
              have hq3 : ((q : Int) == (n : Int) - 1) = false := by simp; omega
              clear hmv hpos hmb
              go_wp2_with fail
              refine HM.out.mono ?_
              rintro e wm ⟨vm, rfl, hcm, _, hnil⟩
              rw [HMV.out, show errV 7 = .iface 35 (.int .i64 7) from rfl]
              clear hnil HM
              have hcim := hci.trans hcm
              go_wp2_with fail
              go_roundw
              case rel => exact ⟨rfl, q + 1, by omega, by go_num, HNy', hcim⟩
              case measure => simp [intOf]; omega
      · obtain rfl : k = 200 := by omega
        have hu := reach_uniq H0.out HRe.out
        have hcnt : popF 6 (setB (mayB now) now.length) = 1 := by
          obtain ⟨i, hi⟩ := hu
          rw [popF_setB _ _ (by rw [HLN.out]; omega)]; exact hi.cnt
        have HCNT := Lib.hid hcnt
        have HM := Lib.hid (may_good _ _ now kinds wr HRn.out HGN.out)
        have hsl := setB_lt (mayB now) now.length
        have hp32 : 2 ^ now.length ≤ 2 ^ 5 := Nat.pow_le_pow_right (by omega) (by rw [HLN.out]; omega)
        obtain ⟨x, hX⟩ : ∃ x, Hid (setB (mayB now) now.length = x) := ⟨_, Lib.hid rfl⟩
        rw [hX.out] at HCNT HM hsl
        have hx64 : x < 64 := by omega
        clear hu hcnt hsl hp32
        go_wp2_with fail
        refine HM.out.mono ?_
        rintro e wm ⟨rfl, hcm⟩
        have hcwm : Chg NoF w wm := hcw.trans hcm
        go_wp2_with fail
        refine (many_any x wm hx64).mono ?_
        rintro e w' ⟨rfl, rfl⟩
        rw [HCNT.out]
        go_wp2
        go_ret
        exact ⟨rfl, hcwm⟩

end Go.Proofs.Ytghamcjcihiopaa
