/-
  The walk of TopRing: in a ring that has come to order, whoever moves, just one may move, and each does in its turn.
  Conditions: the states and the script are read as lists of integers; kinds fits an int.
-/
import Derived.Test.YtghamcjcihiopaaStC
namespace Go.Proofs.Ytghamcjcihiopaa
open Go Go.RowKit

theorem setB_none {f : Nat → Bool} : ∀ {n : Nat}, (∀ j, j < n → f j = false) → setB f n = 0
  | 0, _ => rfl
  | n + 1, h => by rw [setB, setB_none fun j hj => h j (by omega), h n (by omega)]; rfl

theorem setB_one {f : Nat → Bool} {i : Nat} : ∀ {n : Nat}, i < n → f i = true → (∀ j, j < n → j ≠ i → f j = false) → setB f n = 2 ^ i
  | n + 1, hi, hf, h => by
    by_cases e : i = n
    · subst e; rw [setB, setB_none fun j hj => h j (by omega) (by omega), hf]; simp
    · rw [setB, setB_one (by omega) hf fun j hj => h j (by omega), h n (by omega) (by omega)]; simp

theorem Uniq.setB {l : List Int} {i : Nat} (h : Uniq l i) : setB (mayB l) l.length = 2 ^ i := setB_one h.1 h.2.1 h.2.2

theorem pow_bne : ∀ i, i < 5 → ∀ j, j < 5 → (((2 ^ i : Nat) : Int) == ((2 ^ j : Nat) : Int)) = decide (i = j) := by decide +kernel

set_option maxHeartbeats 4000000 in
set_option maxRecDepth 100000 in
theorem ring_walk (S : Nat → Prop) (v sv : Value) (l sc : List Int) (kinds : Int) (w : World) (hr : Rd S w v l) (hs : Rd S w sv sc) (hlb : l.length ≤ 9223372036854775807) (hsb : sc.length ≤ 9223372036854775807) (hk0 : -9223372036854775808 ≤ kinds) (hk1 : kinds ≤ 9223372036854775807) :
    Calls Try.prog 4 #[v, .int .i64 kinds, sv] w fun e w' => e = .returned (.bool true) ∧ Chg NoF w w' := by
  by_cases h0 : stErr l kinds = 0
  case neg =>
    have hchk := Lib.hid (fun w1 (h1 : Rd S w1 v l) => check_any S v l kinds w1 h1 hlb hk0 hk1)
    have hE : Hid (errV (stErr l kinds) = .iface 35 (.int .i64 (stErr l kinds))) := Lib.hid (by unfold errV; rw [if_neg h0])
    have HR := Lib.hid hr
    rw [hE.out] at hchk
    obtain ⟨ec, hec⟩ : ∃ ec, Hid (stErr l kinds = ec) := ⟨_, Lib.hid rfl⟩
    rw [hec.out] at hchk
    clear h0 hr hs
    go_enter Try.func4, Try.ntmps4
    have e1 : setB (mayB [0, 0]) ([0, 0] : List Int).length = 1 := by decide
    have m1 := Lib.hid (may_good (fun k => k = w.heap.size) _ [0, 0] 2 _ (Rd.built w 3 [0, 0] 2 _ rfl) (by decide))
    rw [e1] at m1
    go_wp2_with fail
    refine m1.out.mono ?_
    clear m1 e1
    rintro e w1 ⟨rfl, hc1'⟩
    have hc1 : Chg NoF w w1 := ((Chg.refl _ w).alloc _).trans hc1'
    clear hc1'
    go_wp2_with fail
    refine (hchk.out w1 (HR.out.keep hc1 fun _ _ => id)).mono ?_
    rintro e w2 ⟨rfl, rfl⟩
    go_wp2
    go_ret
    exact ⟨rfl, hc1⟩
  case pos =>
    obtain ⟨hg1, hg2, hg3, hg4, hg5⟩ := stErr_good h0
    have hchk := Lib.hid (fun w1 (h1 : Rd S w1 v l) => check_any S v l kinds w1 h1 hlb hk0 hk1)
    have hE : errV (stErr l kinds) = .nilIface := by unfold errV; rw [if_pos h0]
    rw [hE] at hchk
    have HR := Lib.hid hr
    have HS := Lib.hid hs
    have H0 := Lib.hid h0
    obtain ⟨pa, ca, rfl⟩ := hr.val
    clear h0 hr hs hE hg5
    obtain ⟨n, hN⟩ : ∃ n, Hid (l.length = n) := ⟨_, Lib.hid rfl⟩
    rw [hN.out] at hchk hg1 hg2 hg3 hlb HR ⊢
    go_enter Try.func4, Try.ntmps4
    have e1 : setB (mayB [0, 0]) ([0, 0] : List Int).length = 1 := by decide
    have m1 := Lib.hid (may_good (fun k => k = w.heap.size) _ [0, 0] 2 _ (Rd.built w 3 [0, 0] 2 _ rfl) (by decide))
    rw [e1] at m1
    go_wp2_with fail
    refine m1.out.mono ?_
    clear m1 e1
    rintro e w1 ⟨rfl, hc1'⟩
    have hc1 : Chg NoF w w1 := ((Chg.refl _ w).alloc _).trans hc1'
    clear hc1'
    go_wp2_with fail
    refine (hchk.out w1 (HR.out.keep hc1 fun _ _ => id)).mono ?_
    rintro e w2 ⟨rfl, rfl⟩
    obtain ⟨ps, cs, rfl⟩ := HS.out.val
    obtain ⟨sl, hSL⟩ : ∃ sl, Hid (sc.length = sl) := ⟨_, Lib.hid rfl⟩
    rw [hSL.out] at hsb HS ⊢
    go_wp2_with fail
    go_loopw [10, 11] (fun nv i wr => ∃ k : Nat, k ≤ 200 ∧ i = .int .i64 k ∧ ∃ now, Hid (Reach kinds k l now) ∧ Hid (Rd (fun _ => True) wr nv now) ∧ Chg NoF w wr) (fun _ i _ => 200 - (intOf i).toNat)
    case atStart => exact ⟨0, Nat.zero_le _, rfl, l, Lib.hid rfl, Lib.hid ((HR.out.mono fun _ _ _ => trivial).keep hc1 fun _ _ => id), hc1⟩
    case round =>
      obtain ⟨k, hk200, rfl, now, HRe, HRn, hcw⟩ := hrel
      obtain ⟨hgn, hln⟩ := HRe.out.good H0.out
      have HGN := Lib.hid hgn
      have HLN : Hid (now.length = n) := Lib.hid (hln.trans hN.out)
      clear hgn hln
      by_cases hlt : k < 200
      · have key : ∃ i : Nat, i < n ∧ ((k < sl ∧ ∃ b off, ps = some ⟨b, off, none⟩ ∧ wr.cell? ⟨b, off + k, none⟩ = some (.int .i64 i)) ∨ (k < sl ∧ ∃ b off x, ps = some ⟨b, off, none⟩ ∧ wr.cell? ⟨b, off + k, none⟩ = some (.int .i64 x) ∧ inB x 0 ((n : Int) - 1) = false ∧ Hid (k % n = i)) ∨ (¬ k < sl ∧ Hid (k % n = i))) := by
          by_cases hks : k < sl
          · obtain ⟨b, off, c, e1, _, hc⟩ := HS.out.form (by rw [hSL.out]; omega)
            simp only [Value.slice.injEq] at e1
            have hcell := hcw.cell_some (hc k (by rw [hSL.out]; omega)) (fun h => h)
            cases hp : inB (sc.getD k 0) 0 ((n : Int) - 1) with
            | true =>
              have hb : 0 ≤ sc.getD k 0 ∧ sc.getD k 0 ≤ (n : Int) - 1 := by generalize sc.getD k 0 = x at *; simpa [inB] using hp
              exact ⟨(sc.getD k 0).toNat, by omega, .inl ⟨hks, b, off, e1.1, by rw [Int.toNat_of_nonneg hb.1]; exact hcell⟩⟩
            | false => exact ⟨k % n, Nat.mod_lt _ (by omega), .inr (.inl ⟨hks, b, off, _, e1.1, hcell, hp, Lib.hid rfl⟩)⟩
          · exact ⟨k % n, Nat.mod_lt _ (by omega), .inr (.inr ⟨hks, Lib.hid rfl⟩)⟩
        obtain ⟨i, hin, hcase⟩ := key
        have hn1 : (1 : Int) ≤ n := by omega
        have hkn : ((k : Int) % (n : Int)) = ((k % n : Nat) : Int) := by push_cast; rfl
        obtain ⟨km, hkm⟩ : ∃ km, Hid (k % n = km) := ⟨_, Lib.hid rfl⟩
        rw [hkm.out] at hkn hcase
        have hi0 : (0 : Int) ≤ i := by omega
        have hi1 : (i : Int) < n := by omega
        rcases hcase with ⟨hks, b, off, rfl, hcell⟩ | ⟨hks, b, off, x, rfl, hcell, hinx, hki⟩ | ⟨hks, hki⟩
        · have hini : inB i 0 ((n : Int) - 1) = true := by simp [inB]; omega
          have hks' : (k : Int) < sl := by omega
          go_wp2_with (go_at_call 11; refine (topIn_any _ _ _ _).mono ?_; rintro e w' ⟨rfl, rfl⟩)
          go_loopw [10, 13] (fun nv' j wi => nv' = u10 ∧ ∃ q : Nat, q ≤ n ∧ j = .int .i64 q ∧ Hid (NoneYet now i q) ∧ Chg NoF wr wi) (fun _ j _ => n - (intOf j).toNat)
          case atStart => exact ⟨rfl, 0, Nat.zero_le _, rfl, Lib.hid (fun j hj => by omega), Chg.refl _ _⟩
          case round =>
            obtain ⟨rfl, q, hqn, rfl, HNy, hci⟩ := hrel
            have hfm : ¬ NoneYet now i n := fun hn => by
              obtain ⟨q', hq', hm⟩ := first_mover now (by rw [HLN.out]; omega) i
              rw [HLN.out] at hq'
              rw [hn q' hq'] at hm; cases hm
            have hq1 : q < n := Classical.byContradiction fun hn => hfm ((show q = n by omega) ▸ HNy.out)
            have HFM := Lib.hid hfm
            clear hfm
            obtain ⟨p, hpn, HPP⟩ : ∃ p, p < n ∧ Hid ((i + q) % n = p) := ⟨_, Nat.mod_lt _ (by omega), Lib.hid rfl⟩
            have hpi : ((i : Int) + q) % n = p := by rw [← HPP.out]; push_cast; rfl
            have HM := Lib.hid (move_any (fun _ => True) _ now kinds p _ (HRn.out.keep hci fun _ _ => id) (by rw [HLN.out]; omega) (by omega) (by omega))
            have hpos : inB (p : Int) 0 ((now.length : Int) - 1) = true := by rw [HLN.out]; simp [inB]; omega
            cases hmb : mayB now p with
            | true =>
              have hmv : mvErr now kinds p = 0 := by unfold mvErr; rw [if_neg (by simp [HGN.out]), if_neg (by simp [hpos]), if_neg (by simp [hmb])]
              have HMV := Lib.hid hmv
              have MB := Lib.hid hmb
              clear hmv hpos hmb
              go_wp2_with fail
              refine HM.out.mono ?_
              rintro e wm ⟨vm, rfl, hcm, hrm, _⟩
              have hrm2 := hrm HMV.out
              rw [HMV.out, show errV 0 = .nilIface from rfl]
              have HRM := Lib.hid hrm2
              clear hrm hrm2
              have hcwm : Chg NoF w wm := (hcw.trans hci).trans hcm
              clear HM
              go_wp2_with fail
              go_roundw
              case rel => exact ⟨k + 1, by omega, by go_num, moved now kinds p, Lib.hid ⟨now, HRe.out, p, by rw [HLN.out]; exact hpn, MB.out, rfl⟩, Lib.hid (HRM.out.mono fun _ _ _ => trivial), hcwm⟩
              case measure => simp [intOf]; omega
            | false =>
              have hmv : mvErr now kinds p = 7 := by unfold mvErr; rw [if_neg (by simp [HGN.out]), if_neg (by simp [hpos]), if_pos (by simp [hmb])]
              have HMV := Lib.hid hmv
              have HNy' : Hid (NoneYet now i (q + 1)) := Lib.hid fun j hj => by
                by_cases e : j = q
                · subst e; rw [HLN.out, HPP.out]; exact hmb
                · exact HNy.out j (by omega)
              have hq2 : q + 1 < n := Classical.byContradiction fun hn => HFM.out ((show q + 1 = n by omega) ▸ HNy'.out)
              clear hmv hpos hmb
              go_wp2_with fail
              refine HM.out.mono ?_
              rintro e wm ⟨vm, rfl, hcm, _, hnil⟩
              rw [HMV.out, show errV 7 = .iface 35 (.int .i64 7) from rfl]
              clear hnil HM
              have hcim := hci.trans hcm
              go_wp2_with fail
              go_roundw
              case rel => exact ⟨rfl, q + 1, by omega, by go_num, HNy', hcim⟩
              case measure => simp [intOf]; omega
        · obtain rfl : i = km := hki.out.symm
          have hks' : (k : Int) < sl := by omega
          go_wp2_with (go_at_call 11; refine (topIn_any _ _ _ _).mono ?_; rintro e w' ⟨rfl, rfl⟩)
          go_loopw [10, 13] (fun nv' j wi => nv' = u10 ∧ ∃ q : Nat, q ≤ n ∧ j = .int .i64 q ∧ Hid (NoneYet now i q) ∧ Chg NoF wr wi) (fun _ j _ => n - (intOf j).toNat)
          case atStart => exact ⟨rfl, 0, Nat.zero_le _, rfl, Lib.hid (fun j hj => by omega), Chg.refl _ _⟩
          case round =>
            obtain ⟨rfl, q, hqn, rfl, HNy, hci⟩ := hrel
            have hfm : ¬ NoneYet now i n := fun hn => by
              obtain ⟨q', hq', hm⟩ := first_mover now (by rw [HLN.out]; omega) i
              rw [HLN.out] at hq'
              rw [hn q' hq'] at hm; cases hm
            have hq1 : q < n := Classical.byContradiction fun hn => hfm ((show q = n by omega) ▸ HNy.out)
            have HFM := Lib.hid hfm
            clear hfm
            obtain ⟨p, hpn, HPP⟩ : ∃ p, p < n ∧ Hid ((i + q) % n = p) := ⟨_, Nat.mod_lt _ (by omega), Lib.hid rfl⟩
            have hpi : ((i : Int) + q) % n = p := by rw [← HPP.out]; push_cast; rfl
            have HM := Lib.hid (move_any (fun _ => True) _ now kinds p _ (HRn.out.keep hci fun _ _ => id) (by rw [HLN.out]; omega) (by omega) (by omega))
            have hpos : inB (p : Int) 0 ((now.length : Int) - 1) = true := by rw [HLN.out]; simp [inB]; omega
            cases hmb : mayB now p with
            | true =>
              have hmv : mvErr now kinds p = 0 := by unfold mvErr; rw [if_neg (by simp [HGN.out]), if_neg (by simp [hpos]), if_neg (by simp [hmb])]
              have HMV := Lib.hid hmv
              have MB := Lib.hid hmb
              clear hmv hpos hmb
              go_wp2_with fail
              refine HM.out.mono ?_
              rintro e wm ⟨vm, rfl, hcm, hrm, _⟩
              have hrm2 := hrm HMV.out
              rw [HMV.out, show errV 0 = .nilIface from rfl]
              have HRM := Lib.hid hrm2
              clear hrm hrm2
              have hcwm : Chg NoF w wm := (hcw.trans hci).trans hcm
              clear HM
              go_wp2_with fail
              go_roundw
              case rel => exact ⟨k + 1, by omega, by go_num, moved now kinds p, Lib.hid ⟨now, HRe.out, p, by rw [HLN.out]; exact hpn, MB.out, rfl⟩, Lib.hid (HRM.out.mono fun _ _ _ => trivial), hcwm⟩
              case measure => simp [intOf]; omega
            | false =>
              have hmv : mvErr now kinds p = 7 := by unfold mvErr; rw [if_neg (by simp [HGN.out]), if_neg (by simp [hpos]), if_pos (by simp [hmb])]
              have HMV := Lib.hid hmv
              have HNy' : Hid (NoneYet now i (q + 1)) := Lib.hid fun j hj => by
                by_cases e : j = q
                · subst e; rw [HLN.out, HPP.out]; exact hmb
                · exact HNy.out j (by omega)
              have hq2 : q + 1 < n := Classical.byContradiction fun hn => HFM.out ((show q + 1 = n by omega) ▸ HNy'.out)
              clear hmv hpos hmb
              go_wp2_with fail
              refine HM.out.mono ?_
              rintro e wm ⟨vm, rfl, hcm, _, hnil⟩
              rw [HMV.out, show errV 7 = .iface 35 (.int .i64 7) from rfl]
              clear hnil HM
              have hcim := hci.trans hcm
              go_wp2_with fail
              go_roundw
              case rel => exact ⟨rfl, q + 1, by omega, by go_num, HNy', hcim⟩
              case measure => simp [intOf]; omega
        · obtain rfl : i = km := hki.out.symm
          have hks' : ¬ (k : Int) < sl := by omega
          go_wp2_with (go_at_call 11; refine (topIn_any _ _ _ _).mono ?_; rintro e w' ⟨rfl, rfl⟩)
          go_loopw [10, 13] (fun nv' j wi => nv' = u10 ∧ ∃ q : Nat, q ≤ n ∧ j = .int .i64 q ∧ Hid (NoneYet now i q) ∧ Chg NoF wr wi) (fun _ j _ => n - (intOf j).toNat)
          case atStart => exact ⟨rfl, 0, Nat.zero_le _, rfl, Lib.hid (fun j hj => by omega), Chg.refl _ _⟩
          case round =>
            obtain ⟨rfl, q, hqn, rfl, HNy, hci⟩ := hrel
            have hfm : ¬ NoneYet now i n := fun hn => by
              obtain ⟨q', hq', hm⟩ := first_mover now (by rw [HLN.out]; omega) i
              rw [HLN.out] at hq'
              rw [hn q' hq'] at hm; cases hm
            have hq1 : q < n := Classical.byContradiction fun hn => hfm ((show q = n by omega) ▸ HNy.out)
            have HFM := Lib.hid hfm
            clear hfm
            obtain ⟨p, hpn, HPP⟩ : ∃ p, p < n ∧ Hid ((i + q) % n = p) := ⟨_, Nat.mod_lt _ (by omega), Lib.hid rfl⟩
            have hpi : ((i : Int) + q) % n = p := by rw [← HPP.out]; push_cast; rfl
            have HM := Lib.hid (move_any (fun _ => True) _ now kinds p _ (HRn.out.keep hci fun _ _ => id) (by rw [HLN.out]; omega) (by omega) (by omega))
            have hpos : inB (p : Int) 0 ((now.length : Int) - 1) = true := by rw [HLN.out]; simp [inB]; omega
            cases hmb : mayB now p with
            | true =>
              have hmv : mvErr now kinds p = 0 := by unfold mvErr; rw [if_neg (by simp [HGN.out]), if_neg (by simp [hpos]), if_neg (by simp [hmb])]
              have HMV := Lib.hid hmv
              have MB := Lib.hid hmb
              clear hmv hpos hmb
              go_wp2_with fail
              refine HM.out.mono ?_
              rintro e wm ⟨vm, rfl, hcm, hrm, _⟩
              have hrm2 := hrm HMV.out
              rw [HMV.out, show errV 0 = .nilIface from rfl]
              have HRM := Lib.hid hrm2
              clear hrm hrm2
              have hcwm : Chg NoF w wm := (hcw.trans hci).trans hcm
              clear HM
              go_wp2_with fail
              go_roundw
              case rel => exact ⟨k + 1, by omega, by go_num, moved now kinds p, Lib.hid ⟨now, HRe.out, p, by rw [HLN.out]; exact hpn, MB.out, rfl⟩, Lib.hid (HRM.out.mono fun _ _ _ => trivial), hcwm⟩
              case measure => simp [intOf]; omega
            | false =>
              have hmv : mvErr now kinds p = 7 := by unfold mvErr; rw [if_neg (by simp [HGN.out]), if_neg (by simp [hpos]), if_pos (by simp [hmb])]
              have HMV := Lib.hid hmv
              have HNy' : Hid (NoneYet now i (q + 1)) := Lib.hid fun j hj => by
                by_cases e : j = q
                · subst e; rw [HLN.out, HPP.out]; exact hmb
                · exact HNy.out j (by omega)
              have hq2 : q + 1 < n := Classical.byContradiction fun hn => HFM.out ((show q + 1 = n by omega) ▸ HNy'.out)
              clear hmv hpos hmb
              go_wp2_with fail
              refine HM.out.mono ?_
              rintro e wm ⟨vm, rfl, hcm, _, hnil⟩
              rw [HMV.out, show errV 7 = .iface 35 (.int .i64 7) from rfl]
              clear hnil HM
              have hcim := hci.trans hcm
              go_wp2_with fail
              go_roundw
              case rel => exact ⟨rfl, q + 1, by omega, by go_num, HNy', hcim⟩
              case measure => simp [intOf]; omega
      · obtain rfl : k = 200 := by omega
        have hu := reach_uniq H0.out HRe.out
        obtain ⟨u, hU⟩ := hu
        have hun : u < n := by rw [← HLN.out]; exact hU.1
        have HU := Lib.hid hU
        have HM := Lib.hid (may_good _ _ now kinds wr HRn.out HGN.out)
        rw [hU.setB] at HM
        have hu5 : u < 5 := by omega
        obtain ⟨x, hX⟩ : ∃ x, Hid (2 ^ u = x) := ⟨_, Lib.hid rfl⟩
        rw [hX.out] at HM
        clear hU
        go_wp2_with fail
        refine HM.out.mono ?_
        rintro e wm ⟨rfl, hcm⟩
        have hcwm : Chg NoF w wm := hcw.trans hcm
        have HRm : Hid (Rd (fun _ => True) wm u10 now) := Lib.hid (HRn.out.keep hcm fun _ _ => id)
        go_wp2_with fail
        go_loop [18, 19] (fun a j => ∃ q : Nat, q ≤ n ∧ j = .int .i64 q ∧ ∃ y : Int, a = .int .i64 y ∧ Hid (y = if u < q then (u : Int) else -1)) (fun _ j => n - (intOf j).toNat)
        case atStart => exact ⟨0, Nat.zero_le _, rfl, -1, rfl, Lib.hid (by rw [if_neg (by omega)])⟩
        case round =>
          obtain ⟨q, hqn, rfl, y, rfl, HY⟩ := hrel
          by_cases hq1 : q < n
          · have hpw := pow_bne u hu5 q (by omega)
            rw [hX.out] at hpw
            by_cases huq : u = q
            · obtain rfl : q = u := huq.symm
              have hp2 := hpw.trans (decide_eq_true rfl)
              rw [hX.out] at hp2
              have hp3 : ((x : Int) == x) = true := by simp
              clear hpw hp2
              go_wp2_with (go_at_call 12; refine (pow2_any q _ (by omega)).mono ?_; rintro e w' ⟨rfl, rfl⟩; rw [hX.out])
              go_round
              case rel => exact ⟨q + 1, by omega, by go_num, q, rfl, Lib.hid (by rw [if_pos (by omega)])⟩
              case measure => simp [intOf]; omega
            · have hp2 := hpw.trans (decide_eq_false huq)
              clear hpw
              obtain ⟨z, hZ⟩ : ∃ z, Hid (2 ^ q = z) := ⟨_, Lib.hid rfl⟩
              rw [hZ.out] at hp2
              go_wp2_with (go_at_call 12; refine (pow2_any q _ (by omega)).mono ?_; rintro e w' ⟨rfl, rfl⟩; rw [hZ.out])
              go_round
              case rel => exact ⟨q + 1, by omega, by go_num, y, rfl, Lib.hid (by
                rw [HY.out]
                by_cases h1 : u < q
                · rw [if_pos h1, if_pos (by omega)]
                · rw [if_neg h1, if_neg (by omega)])⟩
              case measure => simp [intOf]; omega
          · obtain rfl : y = u := by rw [HY.out, if_pos (by omega)]
            go_wp2_with fail
            go_loopw [10, 20] (fun nv j wi => ∃ q : Nat, q ≤ 2 * n ∧ j = .int .i64 q ∧ ∃ nw, Hid (Uniq nw ((u + q) % n)) ∧ Hid (stErr nw kinds = 0) ∧ Hid (nw.length = n) ∧ Hid (Rd (fun _ => True) wi nv nw) ∧ Chg NoF w wi) (fun _ j _ => 2 * n - (intOf j).toNat)
            case atStart => exact ⟨0, Nat.zero_le _, rfl, now, Lib.hid (by rw [Nat.add_zero, Nat.mod_eq_of_lt hun]; exact HU.out), HGN, HLN, HRm, hcwm⟩
            case round =>
              rename_i wr'
              obtain ⟨q, hq2n, rfl, nw, HUq, HGq, HLq, HRq, hcq⟩ := hrel
              by_cases hq1 : q < 2 * n
              · obtain ⟨p, hpn, HPP⟩ : ∃ p, p < n ∧ Hid ((u + q) % n = p) := ⟨_, Nat.mod_lt _ (by omega), Lib.hid rfl⟩
                obtain ⟨p2, hp2n, HP2⟩ : ∃ p, p < n ∧ Hid ((u + q + 1) % n = p) := ⟨_, Nat.mod_lt _ (by omega), Lib.hid rfl⟩
                have hpi : ((u : Int) + q) % n = p := by rw [← HPP.out]; push_cast; rfl
                have hpi2 : ((u : Int) + q + 1) % n = p2 := by rw [← HP2.out]; push_cast; rfl
                rw [HPP.out] at HUq
                have hpp2 : (p + 1) % n = p2 := by rw [← HPP.out, ← HP2.out, Nat.mod_add_mod]
                have HM2 := Lib.hid (move_any (fun _ => True) _ nw kinds p _ HRq.out (by rw [HLq.out]; omega) (by omega) (by omega))
                have hpos : inB (p : Int) 0 ((nw.length : Int) - 1) = true := by rw [HLq.out]; simp [inB]; omega
                have hmv : mvErr nw kinds p = 0 := by unfold mvErr; rw [if_neg (by simp [HGq.out]), if_neg (by simp [hpos]), if_neg (by simp [HUq.out.2.1])]
                have HMV := Lib.hid hmv
                have HPP2 := Lib.hid hpp2
                have h2n : (q : Int) < 2 * n := by omega
                have hun2 : (0 : Int) ≤ (u : Int) + q := by omega
                clear hmv hpos hpp2
                go_wp2_with fail
                refine HM2.out.mono ?_
                rintro e wa ⟨vm, rfl, hcm2, hrm, _⟩
                have hrm2 := hrm HMV.out
                rw [HMV.out, show errV 0 = .nilIface from rfl]
                have hg2 : stErr (moved nw kinds p) kinds = 0 := moved_good HGq.out (by rw [HLq.out]; exact hpn)
                have hU2 : Uniq (moved nw kinds p) p2 := by have := uniq_step HGq.out HUq.out; rwa [HLq.out, HPP2.out] at this
                have hl2 : (moved nw kinds p).length = n := by rw [moved_length]; exact HLq.out
                have hR2 : Rd (fun _ => True) wa vm (moved nw kinds p) := hrm2.mono fun _ _ _ => trivial
                have hM3 := may_good _ _ (moved nw kinds p) kinds wa hR2 hg2
                rw [hU2.setB] at hM3
                have HM3 := Lib.hid hM3
                obtain ⟨z, hZ⟩ : ∃ z, Hid (2 ^ p2 = z) := ⟨_, Lib.hid rfl⟩
                rw [hZ.out] at HM3
                obtain ⟨nw2, hNW⟩ : ∃ nw2, Hid (moved nw kinds p = nw2) := ⟨_, Lib.hid rfl⟩
                rw [hNW.out] at hg2 hU2 hl2 hR2
                have HG2 := Lib.hid hg2
                have HU2 := Lib.hid hU2
                have HL2 := Lib.hid hl2
                have HR2 := Lib.hid hR2
                clear hg2 hU2 hl2 hR2 hM3 hrm hrm2 HM2
                have hcwa : Chg NoF w wa := hcq.trans hcm2
                go_wp2_with fail
                refine HM3.out.mono ?_
                rintro e wb ⟨rfl, hcb⟩
                have hzz : ((z : Int) != z) = false := by simp
                have HR3 : Hid (Rd (fun _ => True) wb vm nw2) := Lib.hid (HR2.out.keep hcb fun _ _ => id)
                have hcwb : Chg NoF w wb := hcwa.trans hcb
                go_wp2_with (go_at_call 12; refine (pow2_any p2 _ (by omega)).mono ?_; rintro e w' ⟨rfl, rfl⟩; rw [hZ.out])
                go_roundw
                case rel => exact ⟨q + 1, by omega, by go_num, nw2, Lib.hid (by rw [← Nat.add_assoc, HP2.out]; exact HU2.out), HG2, HL2, HR3, hcwb⟩
                case measure => simp [intOf]; omega
              · have h2n : ¬ (q : Int) < 2 * n := by omega
                go_wp2
                go_ret
                exact ⟨rfl, hcq⟩

end Go.Proofs.Ytghamcjcihiopaa
