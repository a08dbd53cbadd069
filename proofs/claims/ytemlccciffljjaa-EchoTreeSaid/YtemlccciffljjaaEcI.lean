/-
  The wave that comes back: the closed fact, what stays true, and the walk of EchoGoes: behind any steps, if all that is on all ways comes, again and again, it is done.
  Conditions: the sets are read as a list of integers, the steps as lists of integers.
-/
import Derived.Test.YtemlccciffljjaaEcH
import Derived.Test.YtemlccciffljjaaIntss
namespace Go.Proofs.Ytemlccciffljjaa
open Go Go.RowKit

theorem init_n (n : Nat) (near : Nat → Nat) (h : Net n near) : (Wv.init n near).n = n ∧ (Wv.init n near).near = near := by
  have h1 : ((Wv.blank n near).spread 0 (near 0)).n = n := spreadTo_n _ _ _ _
  have h2 : ((Wv.blank n near).spread 0 (near 0)).near = near := by rw [spread_eq]; rfl
  unfold Wv.init Wv.back
  split
  · exact ⟨h1, h2⟩
  · rw [if_pos rfl]; exact ⟨h1, h2⟩

/-- What stays true of a wave, since the world w0. -/
def WRel (w0 w : World) (t : Nat) (nl : List Int) (s : Wv) : Prop := EInv s ∧ (s.n = nl.length ∧ s.near = nearOf nl) ∧ WIn (fun b => b < w0.heap.size) w t s ∧ Chg (NewB w0) w0 w

theorem WRel.step {w0 w w1 : World} {t : Nat} {nl : List Int} {s : Wv} (h : WRel w0 w t nl s) (p q : Int) (hin : WIn (fun b => b < w0.heap.size) w1 t (s.step p q)) (hc : Chg (fun k => ¬ k < w0.heap.size) w w1) : WRel w0 w1 t nl (s.step p q) := by
  have h1 := s.step_n p q h.1.net.n5
  exact ⟨h.1.step p q, ⟨h1.1.trans h.2.1.1, h1.2.trans h.2.1.2⟩, hin, h.2.2.2.trans hc⟩
theorem WRel.keep {w0 w w1 : World} {t : Nat} {nl : List Int} {s : Wv} (h : WRel w0 w t nl s) (hc : Chg NoF w w1) : WRel w0 w1 t nl s :=
  ⟨h.1, h.2.1, h.2.2.1.keep hc, h.2.2.2.trans hc.ofNo⟩

set_option maxHeartbeats 4000000 in
set_option maxRecDepth 100000 in
theorem echoFact_any (w : World) : Calls Try.prog 5 #[] w fun e w' => e = .returned (.bool true) ∧ Chg NoF w w' := by
  go_enter Try.func5, Try.ntmps5
  go_wp2_with fail
  refine (new_any (fun _ => True) _ [2, 1] _ (Rd.built w 3 [2, 1] 2 _ trivial) (by decide)).mono ?_
  rintro e w1 ⟨hc1, h⟩
  rcases h with ⟨h, _⟩ | ⟨hck, t, rfl, hin⟩
  · exact absurd (by decide) h
  obtain ⟨hnet, _⟩ := check_net hck
  have hc0 : Chg NoF w w1 := ((Chg.refl NoF w).alloc _).trans hc1
  have HREL : Hid (WRel w w1 t [2, 1] (Wv.init [2, 1].length (nearOf [2, 1]))) := Lib.hid ⟨init_inv hnet, init_n _ _ hnet, hin.mono fun _ hb => Nat.lt_of_lt_of_le hb ((Chg.refl NoF w).alloc _).size, hc0.ofNo⟩
  have HD := Lib.hid (done_any _ w1 t _ HREL.out.2.2.1)
  rw [show (Wv.init [2, 1].length (nearOf [2, 1])).done = false by decide] at HD
  clear hc1 hin hck hnet hc0
  go_wp2_with fail
  refine HD.out.mono ?_
  rintro e w' ⟨rfl, rfl⟩
  have HS := Lib.hid (step_any _ w1 t _ HREL.out.2.2.1 HREL.out.1 0 1)
  rw [show (Wv.init [2, 1].length (nearOf [2, 1])).stepErr 0 1 = 0 by decide] at HS
  clear HD
  go_wp2_with fail
  refine HS.out.mono ?_
  rintro e w2 ⟨rfl, hin, hc⟩
  rw [show errV 0 = .nilIface from rfl]
  have HREL2 := Lib.hid (HREL.out.step 0 1 hin hc)
  have HD := Lib.hid (done_any _ w2 t _ HREL2.out.2.2.1)
  rw [show ((Wv.init [2, 1].length (nearOf [2, 1])).step 0 1).done = false by decide] at HD
  clear hin hc HS
  go_wp2_with fail
  refine HD.out.mono ?_
  rintro e w' ⟨rfl, rfl⟩
  have HS := Lib.hid (step_any _ w2 t _ HREL2.out.2.2.1 HREL2.out.1 1 0)
  rw [show ((Wv.init [2, 1].length (nearOf [2, 1])).step 0 1).stepErr 1 0 = 0 by decide] at HS
  clear HD
  go_wp2_with fail
  refine HS.out.mono ?_
  rintro e w3 ⟨rfl, hin, hc⟩
  rw [show errV 0 = .nilIface from rfl]
  have HREL3 := Lib.hid (HREL2.out.step 1 0 hin hc)
  have HD := Lib.hid (done_any _ w3 t _ HREL3.out.2.2.1)
  rw [show (((Wv.init [2, 1].length (nearOf [2, 1])).step 0 1).step 1 0).done = true by decide] at HD
  clear hin hc HS
  go_wp2_with fail
  refine HD.out.mono ?_
  rintro e w' ⟨rfl, rfl⟩
  have HP := Lib.hid (parents_any _ w3 t _ HREL3.out.2.2.1 HREL3.out.1.net.n5)
  rw [show (((Wv.init [2, 1].length (nearOf [2, 1])).step 0 1).step 1 0).parents = [0, 0] by decide] at HP
  clear HD
  go_wp2_with fail
  refine HP.out.mono ?_
  rintro e w4 ⟨v, rfl, hown, hc⟩
  have HO := Lib.hid hown
  have HREL4 := Lib.hid (HREL3.out.keep hc)
  obtain ⟨va, vc, rfl⟩ := owns_val hown
  clear hown hc HP
  go_wp2_with fail
  refine (ints_any (fun _ => True) _ _ [0, 0] [0, 0] _ ((Rd.ofOwns HO.out (fun _ _ => trivial)).keep ((Chg.refl NoF w4).alloc _) (fun _ _ h => h)) (Rd.built w4 3 [0, 0] 2 _ trivial) (by decide) (by decide)).mono ?_
  rintro e w6 ⟨rfl, j, rfl⟩
  go_wp2
  go_ret
  have hc := HREL4.out.2.2.2.trans (((Chg.refl (NewB w) w4).alloc (.cells #[.int .i64 0, .int .i64 0] 3)).drewN j)
  exact ⟨rfl, hc.os, hc.tape, hc.output, hc.size, fun k hk _ => hc.block k hk (fun hn => hn hk)⟩

set_option maxHeartbeats 8000000 in
set_option maxRecDepth 100000 in
theorem goes_walk (nv v : Value) (nl : List Int) (ll : List (List Int)) (w : World) (hnr : Rd (fun k => k < w.heap.size) w nv nl) (hnb : nl.length ≤ 9223372036854775807) (hr : Rd2 (fun k => k < w.heap.size) w v ll) (hlb : ll.length ≤ 9223372036854775807) :
    Calls Try.prog 3 #[nv, v] w fun e w' => e = .returned (.bool true) ∧ Chg (NewB w) w w' := by
  have HR := Lib.hid hr
  have HNR := Lib.hid hnr
  obtain ⟨na, nc, rfl⟩ := hnr.val
  obtain ⟨pv, cv, rfl⟩ := hr.val
  have HNB := Lib.hid hnb
  clear hr hnr hnb
  obtain ⟨n, hN⟩ : ∃ n, Hid (nl.length = n) := ⟨_, Lib.hid rfl⟩
  obtain ⟨sl, hSL⟩ : ∃ sl, Hid (ll.length = sl) := ⟨_, Lib.hid rfl⟩
  rw [hSL.out] at hlb HR ⊢
  rw [hN.out] at HNR ⊢
  go_enter Try.func3, Try.ntmps3
  go_wp2_with fail
  refine (echoFact_any w).mono ?_
  rintro e w1 ⟨rfl, hc1⟩
  have HC1 := Lib.hid hc1
  have HNW := Lib.hid (new_any (fun k => k < w.heap.size) _ nl w1 (HNR.out.keep hc1 (fun _ _ h => h)) HNB.out)
  clear hc1
  go_wp2_with fail
  refine HNW.out.mono ?_
  rintro e w2 ⟨hc2, hnew⟩
  have HC2 := Lib.hid hc2
  clear hc2 HNW
  rcases hnew with ⟨hbad, rfl⟩ | ⟨hck, t, rfl, hin⟩
  · rw [show errV (checkErr nl) = .iface 45 (.int .i64 (checkErr nl)) from if_neg hbad]
    clear hbad
    go_wp2
    go_ret
    exact ⟨rfl, (HC1.out.trans HC2.out).ofNo⟩
  obtain ⟨hnet, hvals⟩ := check_net hck
  have HVALS := Lib.hid hvals
  have HREL : Hid (WRel w w2 t nl (Wv.init nl.length (nearOf nl))) := Lib.hid ⟨init_inv hnet, init_n _ _ hnet, hin.mono fun _ hb => Nat.lt_of_lt_of_le hb HC1.out.size, (HC1.out.trans HC2.out).ofNo⟩
  have hn1 : 1 ≤ n := by rw [← hN.out]; exact hnet.n1
  have hn5 : n ≤ 5 := by rw [← hN.out]; exact hnet.n5
  clear hin hck hnet hvals
  go_wp2_with fail
  go_loopw [8] (fun i wr => ∃ j : Nat, j ≤ sl ∧ j ≤ 100 ∧ i = .int .i64 j ∧ ∃ s, Hid (WRel w wr t nl s)) (fun i _ => 100 - (intOf i).toNat)
  case atStart => exact ⟨0, Nat.zero_le _, Nat.zero_le _, rfl, _, HREL⟩
  case round =>
    clear HREL
    obtain ⟨j, hjsl, hj100, rfl, s, HT⟩ := hrel
    by_cases hlt : j < sl ∧ j < 100
    · obtain ⟨hlt1, hlt2⟩ := hlt
      obtain ⟨b, off, c, u, e1, hcell, hrow, hrl⟩ := HR.out.at HT.out.2.2.2 (fun b hb hn => hn hb) (j := j) (by rw [hSL.out]; exact hlt1)
      simp only [Value.slice.injEq] at e1
      obtain ⟨rfl, -, rfl⟩ := e1
      have hj1 : (j : Int) < sl := by omega
      have hj2 : (j : Int) < 100 := by omega
      have HJ : Hid (j + 1 ≤ sl ∧ j + 1 ≤ 100) := Lib.hid ⟨hlt1, hlt2⟩
      obtain ⟨l, HL⟩ : ∃ l, Hid (ll.getD j [] = l) := ⟨_, Lib.hid rfl⟩
      rw [HL.out] at hrow
      obtain ⟨ln, hLN⟩ : ∃ x, Hid (l.length = x) := ⟨_, Lib.hid rfl⟩
      clear hrl hlt1 hlt2 hjsl hj100
      by_cases h2 : ln = 2
      · subst h2
        obtain ⟨b4, off4, c4, rfl, hbS, hc⟩ := hrow.form (by rw [hLN.out]; omega)
        rw [hLN.out] at hc hcell
        have d0 := hc 0 (by omega)
        have d1 := hc 1 (by omega)
        obtain ⟨x, hX⟩ : ∃ x, Hid (l.getD 0 0 = x) := ⟨_, Lib.hid rfl⟩
        obtain ⟨y, hY⟩ : ∃ y, Hid (l.getD 1 0 = y) := ⟨_, Lib.hid rfl⟩
        rw [hX.out, Nat.add_zero] at d0
        rw [hY.out] at d1
        have HG := Lib.hid (step_any _ (World.drew _) t s (HT.out.2.2.1.keep ((Chg.refl NoF _).drew)) HT.out.1 x y)
        clear hrow hc
        go_wp2_with fail
        refine wp_region_plan (Chg NoF _) 13 [(0,true),(1,true),(2,true),(3,true),(4,true),(5,true),(6,true),(7,true),(8,true),(9,true),(10,true),(11,true),(12,true),(13,false)] mixed (by kernel_rfl) (Chg.refl _ _).drew ?_
        simp only [planOps, List.map_cons, List.map_nil, List.getElem?_cons_zero, List.getElem?_cons_succ, Option.getD_some]
        generalize hops : List.toArray _ = ops
        iterate 13 (refine wpPlan_quiet (v := ?_) rfl (fun _ _ _ h => h) (by intro w1 hS; have s0 := hS.cell_some hcell (fun h => h); have s1 := hS.cell_some d0 (fun h => h); have s2 := hS.cell_some d1 (fun h => h); clear hS; go_simp; with_reducible rfl) ?_; (simp only [Act.put, List.setIfInBounds_toArray, List.set_cons_zero, List.set_cons_succ]))
        refine wpPlan_loud rfl (fun K hK => ?_)
        go_simp
        refine HG.out.mono ?_
        rintro e w1 ⟨rfl, hin, hcc⟩
        refine hK _ _ (fun h => absurd rfl h) ?_
        clear hK K
        clear hops
        refine wpPlan_nil ?_
        have HT2 : Hid (WRel w w1 t nl (s.step x y)) := Lib.hid ((HT.out.keep ((Chg.refl NoF _).drew)).step x y hin hcc)
        clear hin hcc HG hcell d0 d1 HT
        go_wp2
        go_roundw
        case rel => exact ⟨j + 1, HJ.out.1, HJ.out.2, by go_num, _, HT2⟩
        case measure => have := HJ.out; simp [intOf]; omega
      obtain ⟨a3, c3, rfl⟩ := hrow.val
      rw [hLN.out] at hcell
      have b2 : ((ln : Int) == 2) = false := by rw [beq_eq_false_iff_ne]; omega
      clear hrow h2
      go_wp2
      go_roundw
      case rel => exact ⟨j + 1, HJ.out.1, HJ.out.2, by go_num, _, HT⟩
      case measure => have := HJ.out; simp [intOf]; omega
    · have HREL2 : Hid (WRel w _ t nl s ∧ Goes 0 s) := Lib.hid ⟨HT.out, goes_start HT.out.1⟩
      have hb : ¬ (j : Int) < sl ∨ ((j : Int) < sl ∧ ¬ (j : Int) < 100) := by omega
      obtain ⟨th, HTH⟩ : ∃ x, Hid (2 * n + 2 = x) := ⟨_, Lib.hid rfl⟩
      clear hlt HT
      rcases hb with hb | ⟨hb1, hb2⟩
      all_goals
        go_wp2_with fail
        go_loopw [10] (fun i wr => ∃ r : Nat, r ≤ th ∧ i = .int .i64 r ∧ ∃ s, Hid (WRel w wr t nl s ∧ Goes r s)) (fun i _ => th - (intOf i).toNat)
        case atStart => exact ⟨0, Nat.zero_le _, rfl, s, HREL2⟩
        case round =>
          clear HREL2
          obtain ⟨r, hrth, rfl, s0, HG⟩ := hrel
          by_cases hr : r < th
          · have hr1 : (r : Int) < 2 * (n : Int) + 2 := by have := HTH.out; omega
            have HRT : Hid (r + 1 ≤ th) := Lib.hid hr
            have HI0 : Hid (WRel w _ t nl s0 ∧ InRnd s0 0 0 s0) := Lib.hid ⟨HG.out.1, inrnd_start HG.out.1.1⟩
            have HS0 : Hid (EInv s0 ∧ Goes r s0 ∧ s0.n = n) := Lib.hid ⟨HG.out.1.1, HG.out.2, HG.out.1.2.1.1.trans hN.out⟩
            clear HG
            go_wp2_with fail
            go_loopw [11] (fun i wr => ∃ p : Nat, p ≤ n ∧ i = .int .i64 p ∧ ∃ s, Hid (WRel w wr t nl s ∧ InRnd s0 p 0 s)) (fun i _ => n - (intOf i).toNat)
            case atStart => exact ⟨0, Nat.zero_le _, rfl, _, HI0⟩
            case round =>
              clear HI0
              obtain ⟨p, hpn, rfl, sp, HI⟩ := hrel
              by_cases hp : p < n
              · have hp1 : (p : Int) < n := by omega
                have HPN : Hid (p + 1 ≤ n) := Lib.hid hp
                go_wp2_with fail
                go_loopw [12] (fun i wr => ∃ q : Nat, q ≤ n ∧ i = .int .i64 q ∧ ∃ s, Hid (WRel w wr t nl s ∧ InRnd s0 p q s)) (fun i _ => n - (intOf i).toNat)
                case atStart => exact ⟨0, Nat.zero_le _, rfl, _, HI⟩
                case round =>
                  clear HI
                  obtain ⟨q, hqn, rfl, sq, HQ⟩ := hrel
                  by_cases hq : q < n
                  · have hq1 : (q : Int) < n := by omega
                    have HQN : Hid (q + 1 ≤ n) := Lib.hid hq
                    have HST := Lib.hid (step_any _ _ t sq HQ.out.1.2.2.1 HQ.out.1.1 p q)
                    have HNX : Hid (InRnd s0 p (q + 1) (sq.step p q)) := Lib.hid (inrnd_next HQ.out.2 (by rw [HS0.out.2.2]; exact hp) (by rw [HS0.out.2.2]; exact hq))
                    go_wp2_with fail
                    refine HST.out.mono ?_
                    rintro e wd ⟨rfl, hin, hc⟩
                    have HQ2 : Hid (WRel w wd t nl (sq.step p q) ∧ InRnd s0 p (q + 1) (sq.step p q)) := Lib.hid ⟨HQ.out.1.step p q hin hc, HNX.out⟩
                    clear hin hc HST HQ HNX
                    go_wp2
                    go_roundw
                    case rel => exact ⟨q + 1, HQN.out, by go_num, _, HQ2⟩
                    case measure => have := HQN.out; simp [intOf]; omega
                  · have hq1 : ¬ (q : Int) < n := by omega
                    have HI3 : Hid (WRel w _ t nl sq ∧ InRnd s0 (p + 1) 0 sq) := Lib.hid ⟨HQ.out.1, inrnd_row HQ.out.2 (by rw [HS0.out.2.2]; omega)⟩
                    go_wp2
                    go_roundw
                    case rel => exact ⟨p + 1, HPN.out, by go_num, _, HI3⟩
                    case measure => have := HPN.out; simp [intOf]; omega
              · have hp1 : ¬ (p : Int) < n := by omega
                have HG2 : Hid (WRel w _ t nl sp ∧ Goes (r + 1) sp) := Lib.hid ⟨HI.out.1, goes_round HS0.out.1 HS0.out.2.1 (by
                  have h := HI.out.2
                  rw [show p = n by omega, ← HS0.out.2.2] at h
                  exact h)⟩
                go_wp2
                go_roundw
                case rel => exact ⟨r + 1, HRT.out, by go_num, _, HG2⟩
                case measure => have := HRT.out; simp [intOf]; omega
          · have hr1 : ¬ (r : Int) < 2 * (n : Int) + 2 := by have := HTH.out; omega
            have HDN : Hid (s0.done = true) := Lib.hid (goes_done HG.out.1.1 HG.out.2 (by have h1 := HG.out.1.2.1.1; rw [hN.out] at h1; have := HTH.out; omega))
            have HDA := Lib.hid (done_any _ _ t s0 HG.out.1.2.2.1)
            have HEND := Lib.hid HG.out.1.2.2.2
            rw [HDN.out] at HDA
            go_wp2_with fail
            refine HDA.out.mono ?_
            rintro e w' ⟨rfl, rfl⟩
            go_wp2
            go_ret
            exact ⟨rfl, HEND.out⟩

end Go.Proofs.Ytemlccciffljjaa
