/-
  The walk of CalmPlays: the program's net and the document's tell the same, whatever is given, stopped and stepped.
  Conditions: the steps are read as lists of integers; package errors' variable errorType holds the handle of the type 'error'.
-/
import Derived.Test.YtbckjmbhipofaaaDoorCaT
import Derived.Test.YtbckjmbhipofaaaDoorCaV
import Derived.Test.YtbckjmbhipofaaaDoorCaN
import Derived.Test.YtbckjmbhipofaaaDoorPlay
import Derived.Test.YtbckjmbhipofaaaDoorDoor
namespace Go.Proofs.YtbckjmbhipofaaaDoor
open Go Go.RowKit

theorem calmAdopts (t g : Nat) (s : CNet) : Adopts fun S w => CIn S w t g s where
  mono := fun h hS => h.mono hS
  adopt := fun {S F w w1} h hc hF => by
    obtain ⟨V, tag, hg, h⟩ := h
    obtain ⟨tag', h'⟩ := Mem.adopt h hc hF
    exact ⟨V, tag', hg, h'⟩

theorem wbits_setB (f : Nat → Bool) : ∀ n, wbits f n = setB f n
  | 0 => rfl
  | n + 1 => by unfold wbits setB; rw [wbits_setB f n]

/-- The program's net, and the document's in block X. -/
structure CP (w w' : World) (X t g n : Nat) (s : CNet) : Prop where
  rel : PRel w w' X (fun S wr => CIn S wr t g s) (cf s)
  bnd : CBnd s
  hn : s.n = n

theorem CP.no {w w' w1 : World} {X t g n : Nat} {s : CNet} (h : CP w w' X t g n s) (hc : Chg NoF w' w1) : CP w w1 X t g n s := ⟨h.rel.no (calmAdopts t g s) hc, h.bnd, h.hn⟩
theorem CP.good {w w' : World} {X t g n : Nat} {s : CNet} (h : CP w w' X t g n s) : CGood s := ⟨h.bnd.sane, h.bnd.inv.n5, fun p hp => (h.bnd.inv.par p hp).1, h.bnd.inv.sent20⟩

theorem giveErr_rng (s : CNet) (p q : Int) : 0 ≤ s.giveErr p q ∧ s.giveErr p q ≤ 9 := by
  unfold CNet.giveErr
  (repeat' split) <;> omega
theorem stopErr_rng (s : CNet) (p : Int) : 0 ≤ s.stopErr p ∧ s.stopErr p ≤ 9 := by
  unfold CNet.stopErr
  (repeat' split) <;> omega
theorem stepErr_rng (s : CNet) (p q : Int) : 0 ≤ s.stepErr p q ∧ s.stepErr p q ≤ 9 := by
  unfold CNet.stepErr
  (repeat' split) <;> omega

set_option maxHeartbeats 16000000 in
set_option maxRecDepth 100000 in
theorem cplays_walk (n : Int) (v : Value) (ll : List (List Int)) (w : World) (hg : As.Met w) (hr : Rd2 (fun k => k < w.heap.size) w v ll) (hlb : ll.length ≤ 9223372036854775807) :
    Calls Tryd.prog 3 #[.int .i64 n, v] w fun e w' => e = .returned (.bool true) ∧ Chg (NewB w) w w' := by
  have HR := Lib.hid hr
  have _ := hlb
  have HG := Lib.hid hg
  clear hr hg
  go_enter Tryd.func3, Tryd.ntmps3
  go_wp2_with fail
  refine (new_any n w).mono ?_
  rintro e w2 ⟨hc2, hnew⟩
  have HC2 := Lib.hid hc2
  clear hc2
  rcases hnew with ⟨hbad, rfl⟩ | ⟨k, rfl, hk1, hk5, t, g, rfl, hin⟩
  · have hb : decide (n < 1) = true ∨ (decide (n < 1) = false ∧ decide (5 < n) = true) := by
      rcases Bool.and_eq_false_iff.1 hbad with h | h
      · left; rw [decide_eq_true_eq]; have := of_decide_eq_false h; omega
      · by_cases h1 : n < 1
        · left; rw [decide_eq_true_eq]; exact h1
        · right; rw [decide_eq_true_eq, decide_eq_false_iff_not]; have := of_decide_eq_false h; omega
    clear hbad
    rcases hb with hb | ⟨hb1, hb2⟩
    all_goals
      go_wp2_with fail
      refine (error_any 1 1 (by omega) (by omega) w2 (HG.out.no HC2.out)).mono ?_
      rintro e w3 ⟨rfl, hc3⟩
      go_wp2
      go_ret
      exact ⟨rfl, (HC2.out.trans hc3).ofNo⟩
  have HIN := Lib.hid hin
  have hka : decide ((k : Int) < 1) = false := by rw [decide_eq_false_iff_not]; omega
  have hkb : decide ((5 : Int) < k) = false := by rw [decide_eq_false_iff_not]; omega
  have HK1 := Lib.hid hk1
  have HK5 := Lib.hid hk5
  clear hin
  obtain ⟨pv, cv, rfl⟩ := HR.out.val
  obtain ⟨sl, hSL⟩ : ∃ sl, Hid (ll.length = sl) := ⟨_, Lib.hid rfl⟩
  rw [hSL.out] at hlb HR ⊢
  go_wp2_with fail
  refine (newCalm_ref (fun _ => False) k hk1 hk5 w2).mono ?_
  rintro e w3 ⟨vx, rfl, us, rfl, hrx, hc3⟩
  have HRX := Lib.hid hrx
  have HC3 := Lib.hid hc3
  clear hrx hc3 hka hkb hk1 hk5
  go_wp2_with (refine wpList_plain rfl (fun K hK => wp_storeT aggCalm _ _ rfl w3.heap.size us [.int .i64 0, .int .i64 0, .slice none 0 0, .slice none 0 0, .slice none 0 0, .int .i64 0, .bool false] (by rfl) (by rfl) HRX.out.len (Blk.alloc w3 [.int .i64 0, .int .i64 0, .slice none 0 0, .slice none 0 0, .slice none 0 0, .int .i64 0, .bool false] 31) rfl HRX.out.one ?_); intro w4 hB4 hc4; have HB4 := Lib.hid hB4; have HC4 := Lib.hid hc4; clear hB4 hc4; refine hK _ _ ?_; clear hK)
  have HP0 : Hid (CP w w4 w3.heap.size t g k (CNet.init k)) := Lib.hid (by
    have hcn : Chg NoF w3 w4 := ((Chg.refl NoF w3).alloc (.cells #[.int .i64 0, .int .i64 0, .slice none 0 0, .slice none 0 0, .slice none 0 0, .int .i64 0, .bool false] 31)).trans2 HC4.out fun i _ hi => .inr (by have hi : i = w3.heap.size := hi; omega)
    have hz2 := HC2.out.size
    have hz3 := HC3.out.size
    have hz4 : w3.heap.size < w4.heap.size := HB4.out.lt
    refine ⟨⟨⟨Plus (fun b => b < w.heap.size) w2 w4, us, fun b hb => .inl hb, .inr ⟨hz3, hz4⟩, (calmAdopts t g _).adopt HIN.out (HC3.out.trans hcn) (fun _ _ h => h.elim), HB4.out, ?_⟩, ((HC2.out.trans HC3.out).trans hcn).ofNo, by omega⟩, CBnd.start HK1.out HK5.out, rfl⟩
    refine (HRX.out.mono (S' := fun b => Plus (fun b => b < w.heap.size) w2 w4 b ∧ b ≠ w3.heap.size) (fun b hb h => ?_)).keep hcn (fun _ _ h => h)
    rcases h with h | h
    · exact h.elim
    · exact ⟨.inr ⟨h, by omega⟩, by omega⟩)
  obtain ⟨X, HX⟩ : ∃ X, Hid (w3.heap.size = X) := ⟨_, Lib.hid rfl⟩
  rw [HX.out] at HP0 ⊢
  clear HIN HC2 HC3 HC4 HB4 HRX
  go_loopw [8, 9, 10, 11, 12, 13, 14] (fun i _ _ _ _ _ _ wr => ∃ j : Nat, j ≤ sl ∧ j ≤ 200 ∧ i = .int .i64 j ∧ ∃ s, Hid (CP w wr X t g k s)) (fun i _ _ _ _ _ _ _ => 200 - (intOf i).toNat)
  case atStart => exact ⟨0, Nat.zero_le _, Nat.zero_le _, rfl, _, HP0⟩
  case round =>
    clear HP0
    obtain ⟨j, hjsl, hj150, rfl, s, HP⟩ := hrel
    by_cases hlt : j < sl ∧ j < 200
    · obtain ⟨hlt1, hlt2⟩ := hlt
      obtain ⟨b, off, c, u, e1, hcell, hrow, hrl⟩ := HR.out.at (Chg.refl (NewB w) w) (fun b hb hn => hn hb) (j := j) (by rw [hSL.out]; exact hlt1)
      simp only [Value.slice.injEq] at e1
      obtain ⟨rfl, -, rfl⟩ := e1
      have hj1 : (j : Int) < sl := by omega
      have hj2 : (j : Int) < 200 := by omega
      have HJJ : Hid (j < sl ∧ j < 200) := Lib.hid ⟨hlt1, hlt2⟩
      have HROW := Lib.hid hrow
      obtain ⟨ua, uc, rfl⟩ := hrow.val
      have hcw := HP.out.rel.chg.cell_some hcell (fun hn => hn (World.block_lt_of_cell? w _ hcell))
      obtain ⟨ln, HLN⟩ : ∃ ln, Hid ((ll.getD j []).length = ln) := ⟨_, Lib.hid rfl⟩
      rw [HLN.out] at HROW hcw
      clear hrow hrl hcell hlt1 hlt2 hjsl hj150
      go_upto_if 50 with fail
      go_cut [10] (fun _ wx => ∃ s', Hid (CP w wx X t g k s'))
      case first =>
        by_cases hl1 : ln = 2
        · subst hl1
          obtain ⟨b1, o1, c1', e1', -, hl⟩ := HROW.out.form (by rw [HLN.out]; omega)
          rw [HLN.out] at hl e1'
          simp only [Value.slice.injEq] at e1'
          obtain ⟨rfl, -, rfl⟩ := e1'
          have dw := hl 0 (by omega)
          obtain ⟨x, HXX⟩ : ∃ x, Hid ((ll.getD j []).getD 0 0 = x) := ⟨_, Lib.hid rfl⟩
          rw [HXX.out, Nat.add_zero] at dw
          have dv := hl 1 (by omega)
          obtain ⟨y, HYY⟩ : ∃ y, Hid ((ll.getD j []).getD 1 0 = y) := ⟨_, Lib.hid rfl⟩
          rw [HYY.out] at dv
          have HBL : Hid (b1 < w.heap.size) := Lib.hid (World.block_lt_of_cell? w _ dw)
          have HBX1 : Hid (b1 ≠ X) := Lib.hid (fun e => HP.out.rel.nX (by rw [← e]; exact HBL.out))
          have d0 := HP.out.rel.chg.cell_some dw (fun hn => hn HBL.out)
          have d1 := HP.out.rel.chg.cell_some dv (fun hn => hn HBL.out)
          obtain ⟨S1, us, hS1, hBX, hRD, hput⟩ := HP.out.rel.doc (calmAdopts t g s)
          have HBX := Lib.hid hBX
          have HRD := Lib.hid hRD
          have HPUT := Lib.hid hput
          have HUL : Hid (us.length = 7) := Lib.hid hRD.len
          have HER := Lib.hid (giveErr_rng s x y)
          have HSR := Lib.hid (fun wq (h : RdS S1 wq us (cf s)) => give_ref S1 wq us s h HP.out.good x y)
          have HNT := Lib.hid (fun S5 w5 (h : CIn S5 w5 t g s) => give_any S5 w5 t g s h HP.out.bnd.sane x y)
          have HI2 := Lib.hid (HP.out.bnd.give x y)
          obtain ⟨s9, HS9⟩ : ∃ s9, Hid (s.give x y = s9) := ⟨_, Lib.hid rfl⟩
          obtain ⟨ke, HKE⟩ : ∃ ke, Hid (s.giveErr x y = ke) := ⟨_, Lib.hid rfl⟩
          unfold ErrPost at HNT
          rw [HS9.out] at HSR HNT HI2
          rw [HKE.out] at HSR HNT HER
          have HNN : Hid (s9.n = k) := Lib.hid (HI2.out.2.1.trans HP.out.hn)
          clear hS1 hBX hRD hput hl hcw
          go_wp2_with fail
          refine wp_region_plan (Chg (fun b => b = X) wr) 13 [(1,true),(2,true),(3,true),(4,true),(5,true),(6,true),(0,false),(7,false),(8,true),(9,true),(10,true),(11,false),(12,true)] mixed (by kernel_rfl) (Chg.refl _ _).drew ?_
          simp only [planOps, List.map_cons, List.map_nil, List.getElem?_cons_zero, List.getElem?_cons_succ, Option.getD_some]
          generalize hops : List.toArray _ = ops
          iterate 6 (refine wpPlan_quiet (v := ?_) rfl (fun _ _ _ h => h) (by intro w1 hS; have s0 := hS.cell_some d0 (fun e => HBX1.out e); have s1 := hS.cell_some d1 (fun e => HBX1.out e); clear hS; go_simp; with_reducible rfl) ?_; (simp only [Act.put, List.setIfInBounds_toArray, List.set_cons_zero, List.set_cons_succ]))
          refine wpPlan_loud rfl (fun K hK => ?_)
          refine wp_loadT aggCalm _ rfl X us (by rfl) (HBX.out.keep ((Chg.refl NoF wr).drew) (fun h => h)) HUL.out ?_
          refine hK _ _ (fun _ => (Chg.refl _ _).drew) ?_
          clear hK K
          (try simp only [Act.put, List.setIfInBounds_toArray, List.set_cons_zero, List.set_cons_succ])
          refine wpPlan_loud rfl (fun K hK => ?_)
          go_simp
          refine (HSR.out wr.drew (HRD.out.keep ((Chg.refl NoF wr).drew) (fun _ _ h => h))).mono ?_
          rintro e w1 ⟨v1, rfl, us1, rfl, hr1, hc1⟩
          have HCZ : Hid (Chg NoF wr w1) := Lib.hid (((Chg.refl NoF wr).drew).trans hc1)
          have HR1 := Lib.hid hr1
          refine hK _ _ (fun _ => HCZ.out.ofNo) ?_
          clear hK K hr1 hc1
          (try simp only [Act.put, List.setIfInBounds_toArray, List.set_cons_zero, List.set_cons_succ])
          iterate 3 (refine wpPlan_quiet (v := ?_) rfl (fun _ _ _ h => h) (by intro w1 hS; clear hS; go_simp; with_reducible rfl) ?_; (simp only [Act.put, List.setIfInBounds_toArray, List.set_cons_zero, List.set_cons_succ]))
          refine wpPlan_loud rfl (fun K hK => ?_)
          refine wp_storeT aggCalm _ _ rfl X us1 us (by rfl) (by rfl) HR1.out.len (HBX.out.keep HCZ.out (fun h => h)) HUL.out HR1.out.one ?_
          intro w5 hB5 hc5
          have HP5 := Lib.hid (HPUT.out w1 w5 us1 _ HCZ.out HR1.out hB5 hc5)
          refine hK _ _ (fun _ => HCZ.out.ofNo.trans hc5) ?_
          clear hK K hB5 hc5
          (try simp only [Act.put, List.setIfInBounds_toArray, List.set_cons_zero, List.set_cons_succ])
          (refine wpPlan_quiet (v := ?_) rfl (fun _ _ _ h => h) (by intro w1 hS; clear hS; go_simp; with_reducible rfl) ?_; (simp only [Act.put, List.setIfInBounds_toArray, List.set_cons_zero, List.set_cons_succ]))
          clear hops
          refine wpPlan_nil ?_
          clear d0 d1 HBX HRD HSR HPUT HR1 HCZ
          have d0 := HP5.out.chg.cell_some dw (fun hn => hn HBL.out)
          have d1 := HP5.out.chg.cell_some dv (fun hn => hn HBL.out)
          have nd0 : ¬ NewB w b1 := fun hn => hn HBL.out
          go_wp2_with fail
          refine wp_region_plan (Chg (NewB w) w) 11 [(0,true),(1,true),(2,true),(3,true),(4,true),(5,true),(6,true),(8,true),(7,false),(9,false),(10,true)] mixed (by kernel_rfl) (HP5.out.chg.drew) ?_
          simp only [planOps, List.map_cons, List.map_nil, List.getElem?_cons_zero, List.getElem?_cons_succ, Option.getD_some]
          generalize hops : List.toArray _ = ops
          iterate 8 (refine wpPlan_quiet (v := ?_) rfl (fun _ _ _ h => h) (by intro w1 hS; have s0 := hS.cell_some dw nd0; have s1 := hS.cell_some dv nd0; clear hS; go_simp; with_reducible rfl) ?_; (simp only [Act.put, List.setIfInBounds_toArray, List.set_cons_zero, List.set_cons_succ]))
          refine wpPlan_loud rfl (fun K hK => ?_)
          go_simp
          obtain ⟨S5, hin5, hstep5⟩ := (HP5.out.no (calmAdopts t g s) ((Chg.refl NoF w5).drew)).net
          refine (HNT.out S5 _ hin5).mono ?_
          rintro e w6 ⟨rfl, hin6, hc6⟩
          have HP6 : Hid (CP w w6 X t g k s9) := Lib.hid ⟨hstep5 w6 (fun S wr => CIn S wr t g s9) hin6 hc6, HI2.out.1, HNN.out⟩
          refine hK _ _ (fun _ => HP6.out.rel.chg) ?_
          clear hK K hin5 hstep5 hin6 hc6 HP5 HNT d0 d1
          (try simp only [Act.put, List.setIfInBounds_toArray, List.set_cons_zero, List.set_cons_succ])
          refine wpPlan_loud rfl (fun K hK => ?_)
          go_simp
          refine (error_any ke ke (by have := HER.out; omega) (by have := HER.out; omega) w6 (HG.out.new HP6.out.rel.chg)).mono ?_
          rintro e w7 ⟨rfl, hc7⟩
          have HP7 := Lib.hid (HP6.out.no hc7)
          simp only [decide_true]
          refine hK _ _ (fun _ => HP7.out.rel.chg) ?_
          clear hK K hc7 HP6
          (try simp only [Act.put, List.setIfInBounds_toArray, List.set_cons_zero, List.set_cons_succ])
          (refine wpPlan_quiet (v := ?_) rfl (fun _ _ _ h => h) (by intro w1 hS; clear hS; go_simp; with_reducible rfl) ?_; (simp only [Act.put, List.setIfInBounds_toArray, List.set_cons_zero, List.set_cons_succ]))
          clear hops
          refine wpPlan_nil ?_
          clear dw dv nd0
          go_wp2_with fail
          go_meet
          case rel => exact ⟨s9, HP7⟩
        · have hb1 : ((ln : Int) == 2) = false := by rw [beq_eq_false_iff_ne]; omega
          go_wp2_with fail
          go_meet
          case rel => exact ⟨s, HP⟩
      case rest =>
      obtain ⟨s2, HP2⟩ := hcut
      clear HP hcw
      go_upto_if 75 with fail
      go_cut [10] (fun _ wx => ∃ s', Hid (CP w wx X t g k s'))
      case first =>
        by_cases hl1 : ln = 1
        · subst hl1
          obtain ⟨b1, o1, c1', e1', -, hl⟩ := HROW.out.form (by rw [HLN.out]; omega)
          rw [HLN.out] at hl e1'
          simp only [Value.slice.injEq] at e1'
          obtain ⟨rfl, -, rfl⟩ := e1'
          have dw := hl 0 (by omega)
          obtain ⟨x, HXX⟩ : ∃ x, Hid ((ll.getD j []).getD 0 0 = x) := ⟨_, Lib.hid rfl⟩
          rw [HXX.out, Nat.add_zero] at dw
          have HBL : Hid (b1 < w.heap.size) := Lib.hid (World.block_lt_of_cell? w _ dw)
          have HBX1 : Hid (b1 ≠ X) := Lib.hid (fun e => HP2.out.rel.nX (by rw [← e]; exact HBL.out))
          have d0 := HP2.out.rel.chg.cell_some dw (fun hn => hn HBL.out)
          obtain ⟨S1, us, hS1, hBX, hRD, hput⟩ := HP2.out.rel.doc (calmAdopts t g s2)
          have HBX := Lib.hid hBX
          have HRD := Lib.hid hRD
          have HPUT := Lib.hid hput
          have HUL : Hid (us.length = 7) := Lib.hid hRD.len
          have HER := Lib.hid (stopErr_rng s2 x)
          have HSR := Lib.hid (fun wq (h : RdS S1 wq us (cf s2)) => stop_ref S1 wq us s2 h HP2.out.good x)
          have HNT := Lib.hid (fun S5 w5 (h : CIn S5 w5 t g s2) => stop_any S5 w5 t g s2 h HP2.out.bnd.sane x)
          have HI2 := Lib.hid (HP2.out.bnd.stop x)
          obtain ⟨s9, HS9⟩ : ∃ s9, Hid (s2.stop x = s9) := ⟨_, Lib.hid rfl⟩
          obtain ⟨ke, HKE⟩ : ∃ ke, Hid (s2.stopErr x = ke) := ⟨_, Lib.hid rfl⟩
          unfold ErrPost at HNT
          rw [HS9.out] at HSR HNT HI2
          rw [HKE.out] at HSR HNT HER
          have HNN : Hid (s9.n = k) := Lib.hid (HI2.out.2.1.trans HP2.out.hn)
          clear hS1 hBX hRD hput hl
          go_wp2_with fail
          refine wp_region_plan (Chg (fun b => b = X) wc) 10 [(1,true),(2,true),(3,true),(0,false),(4,false),(5,true),(6,true),(7,true),(8,false),(9,true)] mixed (by kernel_rfl) (Chg.refl _ _).drew ?_
          simp only [planOps, List.map_cons, List.map_nil, List.getElem?_cons_zero, List.getElem?_cons_succ, Option.getD_some]
          generalize hops : List.toArray _ = ops
          iterate 3 (refine wpPlan_quiet (v := ?_) rfl (fun _ _ _ h => h) (by intro w1 hS; have s0 := hS.cell_some d0 (fun e => HBX1.out e); clear hS; go_simp; with_reducible rfl) ?_; (simp only [Act.put, List.setIfInBounds_toArray, List.set_cons_zero, List.set_cons_succ]))
          refine wpPlan_loud rfl (fun K hK => ?_)
          refine wp_loadT aggCalm _ rfl X us (by rfl) (HBX.out.keep ((Chg.refl NoF wc).drew) (fun h => h)) HUL.out ?_
          refine hK _ _ (fun _ => (Chg.refl _ _).drew) ?_
          clear hK K
          (try simp only [Act.put, List.setIfInBounds_toArray, List.set_cons_zero, List.set_cons_succ])
          refine wpPlan_loud rfl (fun K hK => ?_)
          go_simp
          refine (HSR.out wc.drew (HRD.out.keep ((Chg.refl NoF wc).drew) (fun _ _ h => h))).mono ?_
          rintro e w1 ⟨v1, rfl, us1, rfl, hr1, hc1⟩
          have HCZ : Hid (Chg NoF wc w1) := Lib.hid (((Chg.refl NoF wc).drew).trans hc1)
          have HR1 := Lib.hid hr1
          refine hK _ _ (fun _ => HCZ.out.ofNo) ?_
          clear hK K hr1 hc1
          (try simp only [Act.put, List.setIfInBounds_toArray, List.set_cons_zero, List.set_cons_succ])
          iterate 3 (refine wpPlan_quiet (v := ?_) rfl (fun _ _ _ h => h) (by intro w1 hS; clear hS; go_simp; with_reducible rfl) ?_; (simp only [Act.put, List.setIfInBounds_toArray, List.set_cons_zero, List.set_cons_succ]))
          refine wpPlan_loud rfl (fun K hK => ?_)
          refine wp_storeT aggCalm _ _ rfl X us1 us (by rfl) (by rfl) HR1.out.len (HBX.out.keep HCZ.out (fun h => h)) HUL.out HR1.out.one ?_
          intro w5 hB5 hc5
          have HP5 := Lib.hid (HPUT.out w1 w5 us1 _ HCZ.out HR1.out hB5 hc5)
          refine hK _ _ (fun _ => HCZ.out.ofNo.trans hc5) ?_
          clear hK K hB5 hc5
          (try simp only [Act.put, List.setIfInBounds_toArray, List.set_cons_zero, List.set_cons_succ])
          (refine wpPlan_quiet (v := ?_) rfl (fun _ _ _ h => h) (by intro w1 hS; clear hS; go_simp; with_reducible rfl) ?_; (simp only [Act.put, List.setIfInBounds_toArray, List.set_cons_zero, List.set_cons_succ]))
          clear hops
          refine wpPlan_nil ?_
          clear d0  HBX HRD HSR HPUT HR1 HCZ
          have d0 := HP5.out.chg.cell_some dw (fun hn => hn HBL.out)
          have nd0 : ¬ NewB w b1 := fun hn => hn HBL.out
          go_wp2_with fail
          obtain ⟨S5, hin5, hstep5⟩ := HP5.out.net
          refine (HNT.out S5 _ hin5).mono ?_
          rintro e w6 ⟨rfl, hin6, hc6⟩
          have HP6 : Hid (CP w w6 X t g k s9) := Lib.hid ⟨hstep5 w6 (fun S wr => CIn S wr t g s9) hin6 hc6, HI2.out.1, HNN.out⟩
          clear hin5 hstep5 hin6 hc6 HP5 HNT d0
          go_wp2_with fail
          refine (error_any ke ke (by have := HER.out; omega) (by have := HER.out; omega) w6 (HG.out.new HP6.out.rel.chg)).mono ?_
          rintro e w7 ⟨rfl, hc7⟩
          have HP7 := Lib.hid (HP6.out.no hc7)
          simp only [decide_true]
          clear hc7 HP6 dw nd0
          go_wp2_with fail
          go_meet
          case rel => exact ⟨s9, HP7⟩
        · have hb1 : ((ln : Int) == 1) = false := by rw [beq_eq_false_iff_ne]; omega
          go_wp2_with fail
          go_meet
          case rel => exact ⟨s2, HP2⟩
      case rest =>
      obtain ⟨s3, HP3⟩ := hcut
      clear HP2
      go_upto_if 94 with fail
      go_cut [10] (fun _ wx => ∃ s', Hid (CP w wx X t g k s'))
      case first =>
        by_cases hl1 : ln = 3
        · subst hl1
          obtain ⟨b1, o1, c1', e1', -, hl⟩ := HROW.out.form (by rw [HLN.out]; omega)
          rw [HLN.out] at hl e1'
          simp only [Value.slice.injEq] at e1'
          obtain ⟨rfl, -, rfl⟩ := e1'
          have dw := hl 0 (by omega)
          obtain ⟨x, HXX⟩ : ∃ x, Hid ((ll.getD j []).getD 0 0 = x) := ⟨_, Lib.hid rfl⟩
          rw [HXX.out, Nat.add_zero] at dw
          have dv := hl 1 (by omega)
          obtain ⟨y, HYY⟩ : ∃ y, Hid ((ll.getD j []).getD 1 0 = y) := ⟨_, Lib.hid rfl⟩
          rw [HYY.out] at dv
          have HBL : Hid (b1 < w.heap.size) := Lib.hid (World.block_lt_of_cell? w _ dw)
          have HBX1 : Hid (b1 ≠ X) := Lib.hid (fun e => HP3.out.rel.nX (by rw [← e]; exact HBL.out))
          have d0 := HP3.out.rel.chg.cell_some dw (fun hn => hn HBL.out)
          have d1 := HP3.out.rel.chg.cell_some dv (fun hn => hn HBL.out)
          obtain ⟨S1, us, hS1, hBX, hRD, hput⟩ := HP3.out.rel.doc (calmAdopts t g s3)
          have HBX := Lib.hid hBX
          have HRD := Lib.hid hRD
          have HPUT := Lib.hid hput
          have HUL : Hid (us.length = 7) := Lib.hid hRD.len
          have HER := Lib.hid (stepErr_rng s3 x y)
          have HSR := Lib.hid (fun wq (h : RdS S1 wq us (cf s3)) => step_ref S1 wq us s3 h HP3.out.good x y)
          have HNT := Lib.hid (fun S5 w5 (h : CIn S5 w5 t g s3) => step_any S5 w5 t g s3 h HP3.out.bnd.sane x y)
          have HI2 := Lib.hid (HP3.out.bnd.step x y)
          obtain ⟨s9, HS9⟩ : ∃ s9, Hid (s3.step x y = s9) := ⟨_, Lib.hid rfl⟩
          obtain ⟨ke, HKE⟩ : ∃ ke, Hid (s3.stepErr x y = ke) := ⟨_, Lib.hid rfl⟩
          unfold ErrPost at HNT
          rw [HS9.out] at HSR HNT HI2
          rw [HKE.out] at HSR HNT HER
          have HNN : Hid (s9.n = k) := Lib.hid (HI2.out.2.1.trans HP3.out.hn)
          clear hS1 hBX hRD hput hl
          go_wp2_with fail
          refine wp_region_plan (Chg (fun b => b = X) wc) 13 [(1,true),(2,true),(3,true),(4,true),(5,true),(6,true),(0,false),(7,false),(8,true),(9,true),(10,true),(11,false),(12,true)] mixed (by kernel_rfl) (Chg.refl _ _).drew ?_
          simp only [planOps, List.map_cons, List.map_nil, List.getElem?_cons_zero, List.getElem?_cons_succ, Option.getD_some]
          generalize hops : List.toArray _ = ops
          iterate 6 (refine wpPlan_quiet (v := ?_) rfl (fun _ _ _ h => h) (by intro w1 hS; have s0 := hS.cell_some d0 (fun e => HBX1.out e); have s1 := hS.cell_some d1 (fun e => HBX1.out e); clear hS; go_simp; with_reducible rfl) ?_; (simp only [Act.put, List.setIfInBounds_toArray, List.set_cons_zero, List.set_cons_succ]))
          refine wpPlan_loud rfl (fun K hK => ?_)
          refine wp_loadT aggCalm _ rfl X us (by rfl) (HBX.out.keep ((Chg.refl NoF wc).drew) (fun h => h)) HUL.out ?_
          refine hK _ _ (fun _ => (Chg.refl _ _).drew) ?_
          clear hK K
          (try simp only [Act.put, List.setIfInBounds_toArray, List.set_cons_zero, List.set_cons_succ])
          refine wpPlan_loud rfl (fun K hK => ?_)
          go_simp
          refine (HSR.out wc.drew (HRD.out.keep ((Chg.refl NoF wc).drew) (fun _ _ h => h))).mono ?_
          rintro e w1 ⟨v1, rfl, us1, rfl, hr1, hc1⟩
          have HCZ : Hid (Chg NoF wc w1) := Lib.hid (((Chg.refl NoF wc).drew).trans hc1)
          have HR1 := Lib.hid hr1
          refine hK _ _ (fun _ => HCZ.out.ofNo) ?_
          clear hK K hr1 hc1
          (try simp only [Act.put, List.setIfInBounds_toArray, List.set_cons_zero, List.set_cons_succ])
          iterate 3 (refine wpPlan_quiet (v := ?_) rfl (fun _ _ _ h => h) (by intro w1 hS; clear hS; go_simp; with_reducible rfl) ?_; (simp only [Act.put, List.setIfInBounds_toArray, List.set_cons_zero, List.set_cons_succ]))
          refine wpPlan_loud rfl (fun K hK => ?_)
          refine wp_storeT aggCalm _ _ rfl X us1 us (by rfl) (by rfl) HR1.out.len (HBX.out.keep HCZ.out (fun h => h)) HUL.out HR1.out.one ?_
          intro w5 hB5 hc5
          have HP5 := Lib.hid (HPUT.out w1 w5 us1 _ HCZ.out HR1.out hB5 hc5)
          refine hK _ _ (fun _ => HCZ.out.ofNo.trans hc5) ?_
          clear hK K hB5 hc5
          (try simp only [Act.put, List.setIfInBounds_toArray, List.set_cons_zero, List.set_cons_succ])
          (refine wpPlan_quiet (v := ?_) rfl (fun _ _ _ h => h) (by intro w1 hS; clear hS; go_simp; with_reducible rfl) ?_; (simp only [Act.put, List.setIfInBounds_toArray, List.set_cons_zero, List.set_cons_succ]))
          clear hops
          refine wpPlan_nil ?_
          clear d0 d1 HBX HRD HSR HPUT HR1 HCZ
          have d0 := HP5.out.chg.cell_some dw (fun hn => hn HBL.out)
          have d1 := HP5.out.chg.cell_some dv (fun hn => hn HBL.out)
          have nd0 : ¬ NewB w b1 := fun hn => hn HBL.out
          go_wp2_with fail
          refine wp_region_plan (Chg (NewB w) w) 11 [(0,true),(1,true),(2,true),(3,true),(4,true),(5,true),(6,true),(8,true),(7,false),(9,false),(10,true)] mixed (by kernel_rfl) (HP5.out.chg.drew) ?_
          simp only [planOps, List.map_cons, List.map_nil, List.getElem?_cons_zero, List.getElem?_cons_succ, Option.getD_some]
          generalize hops : List.toArray _ = ops
          iterate 8 (refine wpPlan_quiet (v := ?_) rfl (fun _ _ _ h => h) (by intro w1 hS; have s0 := hS.cell_some dw nd0; have s1 := hS.cell_some dv nd0; clear hS; go_simp; with_reducible rfl) ?_; (simp only [Act.put, List.setIfInBounds_toArray, List.set_cons_zero, List.set_cons_succ]))
          refine wpPlan_loud rfl (fun K hK => ?_)
          go_simp
          obtain ⟨S5, hin5, hstep5⟩ := (HP5.out.no (calmAdopts t g s3) ((Chg.refl NoF w5).drew)).net
          refine (HNT.out S5 _ hin5).mono ?_
          rintro e w6 ⟨rfl, hin6, hc6⟩
          have HP6 : Hid (CP w w6 X t g k s9) := Lib.hid ⟨hstep5 w6 (fun S wr => CIn S wr t g s9) hin6 hc6, HI2.out.1, HNN.out⟩
          refine hK _ _ (fun _ => HP6.out.rel.chg) ?_
          clear hK K hin5 hstep5 hin6 hc6 HP5 HNT d0 d1
          (try simp only [Act.put, List.setIfInBounds_toArray, List.set_cons_zero, List.set_cons_succ])
          refine wpPlan_loud rfl (fun K hK => ?_)
          go_simp
          refine (error_any ke ke (by have := HER.out; omega) (by have := HER.out; omega) w6 (HG.out.new HP6.out.rel.chg)).mono ?_
          rintro e w7 ⟨rfl, hc7⟩
          have HP7 := Lib.hid (HP6.out.no hc7)
          simp only [decide_true]
          refine hK _ _ (fun _ => HP7.out.rel.chg) ?_
          clear hK K hc7 HP6
          (try simp only [Act.put, List.setIfInBounds_toArray, List.set_cons_zero, List.set_cons_succ])
          (refine wpPlan_quiet (v := ?_) rfl (fun _ _ _ h => h) (by intro w1 hS; clear hS; go_simp; with_reducible rfl) ?_; (simp only [Act.put, List.setIfInBounds_toArray, List.set_cons_zero, List.set_cons_succ]))
          clear hops
          refine wpPlan_nil ?_
          clear dw dv nd0
          go_wp2_with fail
          go_meet
          case rel => exact ⟨s9, HP7⟩
        · have hb1 : ((ln : Int) == 3) = false := by rw [beq_eq_false_iff_ne]; omega
          go_wp2_with fail
          go_meet
          case rel => exact ⟨s3, HP3⟩
      case rest =>
      obtain ⟨s4, HP4⟩ := hcut
      clear HP3
      obtain ⟨S5, us, hSX, hin5, hBX, hRD, -⟩ := HP4.out.rel.all
      obtain ⟨pa, pc, oa, oc, wa, wcc, rfl⟩ := cf_opn hRD
      have HWK := Lib.hid (works_any S5 wc.drew t g s4 (hin5.keep ((Chg.refl NoF wc).drew)) HP4.out.bnd.inv.n1 HP4.out.bnd.inv.n5)
      have HCA := Lib.hid (fun w6 (h : CIn S5 w6 t g s4) => calm_any S5 w6 t g s4 h)
      have HIN5 := Lib.hid hin5
      rw [wbits_setB] at HWK
      obtain ⟨m, HM⟩ : ∃ m, Hid (setB s4.works s4.n = m) := ⟨_, Lib.hid rfl⟩
      obtain ⟨cl, HCL⟩ : ∃ cl, Hid (s4.calm = cl) := ⟨_, Lib.hid rfl⟩
      have c1 : wc.cell? ⟨X, 1, none⟩ = some (.int .i64 (setB s4.works s4.n : Nat)) := hBX.cell 1
      have c6 : wc.cell? ⟨X, 6, none⟩ = some (.bool s4.calm) := hBX.cell 6
      rw [HM.out] at HWK c1
      rw [HCL.out] at HCA c6
      have hm1 : ((m : Int) != (m : Int)) = false := by simp
      have hcl1 : (cl != cl) = false := by simp
      clear hSX hin5 hBX hRD
      go_wp2_with fail
      refine wp_region_plan (Chg NoF wc) 12 [(0,true),(2,true),(3,true),(1,false),(4,true),(5,true),(6,true),(8,true),(9,true),(7,false),(10,true),(11,true)] mixed (by kernel_rfl) (Chg.refl _ _).drew ?_
      simp only [planOps, List.map_cons, List.map_nil, List.getElem?_cons_zero, List.getElem?_cons_succ, Option.getD_some]
      generalize hops : List.toArray _ = ops
      iterate 3 (refine wpPlan_quiet (v := ?_) rfl (fun _ _ _ h => h) (by intro w1 hS; have s0 := hS.cell_some c1 (fun h => h); clear hS; go_simp; with_reducible rfl) ?_; (simp only [Act.put, List.setIfInBounds_toArray, List.set_cons_zero, List.set_cons_succ]))
      refine wpPlan_loud rfl (fun K hK => ?_)
      go_simp
      refine HWK.out.mono ?_
      rintro e w4 ⟨rfl, hc4⟩
      have HC4 : Hid (Chg NoF wc w4) := Lib.hid (((Chg.refl NoF wc).drew).trans hc4)
      refine hK _ _ (fun _ => HC4.out) ?_
      clear hK K hc4
      (try simp only [Act.put, List.setIfInBounds_toArray, List.set_cons_zero, List.set_cons_succ])
      iterate 2 (refine wpPlan_quiet (v := ?_) rfl (fun _ _ _ h => h) (by intro w1 hS; clear hS; go_simp; with_reducible rfl) ?_; (simp only [Act.put, List.setIfInBounds_toArray, List.set_cons_zero, List.set_cons_succ]))
      iterate 3 (refine wpPlan_quietG (v := ?_) (by rw [← hops]; rfl) (fun _ _ _ h => h) (by intro w1 hS; have s0 := hS.cell_some c6 (fun h => h); clear hS; go_simp; with_reducible rfl) ?_; (simp only [Act.put, List.setIfInBounds_toArray, List.set_cons_zero, List.set_cons_succ]))
      refine wpPlan_loudG (by rw [← hops]; rfl) (fun K hK => ?_)
      go_simp
      refine (HCA.out w4 (HIN5.out.keep HC4.out)).mono ?_
      rintro e w5 ⟨rfl, rfl⟩
      refine hK _ _ (fun _ => HC4.out) ?_
      clear hK K
      (try simp only [Act.put, List.setIfInBounds_toArray, List.set_cons_zero, List.set_cons_succ])
      (refine wpPlan_quietG (v := ?_) (by rw [← hops]; rfl) (fun _ _ _ h => h) (by intro w1 hS; clear hS; go_simp; with_reducible rfl) ?_; (simp only [Act.put, List.setIfInBounds_toArray, List.set_cons_zero, List.set_cons_succ]))
      (refine wpPlan_quiet (v := ?_) rfl (fun _ _ _ h => h) (by intro w1 hS; clear hS; go_simp; with_reducible rfl) ?_; (simp only [Act.put, List.setIfInBounds_toArray, List.set_cons_zero, List.set_cons_succ]))
      clear hops
      refine wpPlan_nil ?_
      have HP5 := Lib.hid (HP4.out.no HC4.out)
      clear c1 c6 hm1 hcl1 HP4 HWK HCA HIN5 HC4
      go_wp2_with fail
      go_loopw [11, 12, 13, 14] (fun i _ _ _ wr => ∃ p : Nat, p ≤ k ∧ i = .int .i64 p ∧ Hid (CP w wr X t g k s4)) (fun i _ _ _ _ => k - (intOf i).toNat)
      case atStart => exact ⟨0, Nat.zero_le _, rfl, HP5⟩
      case round =>
        clear HP5
        obtain ⟨p, hpk, rfl, HP6⟩ := hrel
        by_cases hp : p < k
        · have hp1 : (p : Int) < k := by omega
          have HPK : Hid (p + 1 ≤ k) := Lib.hid hp
          have HPS : Hid (p < s4.n) := Lib.hid (by rw [HP6.out.hn]; exact hp)
          obtain ⟨S6, us, hSX, hin6, hBX, hRD, -⟩ := HP6.out.rel.all
          obtain ⟨pa, pc, oa, oc, wa, wcc, rfl⟩ := cf_opn hRD
          have HND := Lib.hid (node_any S6 wr t g s4 hin6 HP6.out.bnd.inv.n1 p)
          have hip : s4.is p = true := (s4.is_iff p).2 ⟨p, rfl, HPS.out⟩
          rw [show s4.nodeAt p = s4.parent p by unfold CNet.nodeAt; rw [if_pos hip, Int.toNat_natCast], show s4.nodeOwed p = s4.owed p by unfold CNet.nodeOwed; rw [if_pos hip, Int.toNat_natCast]] at HND
          have HRP : Hid (Rd (fun b => S6 b ∧ b ≠ X) wr (.slice pa s4.n pc) (line s4.n s4.parent)) := Lib.hid (RdS.at (f := .l (line s4.n s4.parent)) 2 hRD rfl rfl)
          have HRO : Hid (Rd (fun b => S6 b ∧ b ≠ X) wr (.slice oa s4.n oc) (line s4.n s4.owed)) := Lib.hid (RdS.at (f := .l (line s4.n s4.owed)) 3 hRD rfl rfl)
          obtain ⟨pr, HPR⟩ : ∃ pr, Hid (s4.parent p = pr) := ⟨_, Lib.hid rfl⟩
          obtain ⟨ow, HOW⟩ : ∃ ow, Hid (s4.owed p = ow) := ⟨_, Lib.hid rfl⟩
          rw [HPR.out, HOW.out] at HND
          obtain ⟨bP, oP, cP, eP, -, hcP⟩ := HRP.out.form (by rw [line_len]; have := HPS.out; omega)
          rw [line_len] at eP
          simp only [Value.slice.injEq] at eP
          obtain ⟨rfl, -, rfl⟩ := eP
          have dP := hcP p (by rw [line_len]; exact HPS.out)
          rw [line_at _ HPS.out, HPR.out] at dP
          obtain ⟨bO, oO, cO, eO, -, hcO⟩ := HRO.out.form (by rw [line_len]; have := HPS.out; omega)
          rw [line_len] at eO
          simp only [Value.slice.injEq] at eO
          obtain ⟨rfl, -, rfl⟩ := eO
          have dO := hcO p (by rw [line_len]; exact HPS.out)
          rw [line_at _ HPS.out, HOW.out] at dO
          rw [HP6.out.hn] at hBX
          have HBX := Lib.hid hBX
          have hpr : (pr != pr) = false := by simp
          have how : (ow != ow) = false := by simp
          clear hSX hin6 hBX hRD hcP hcO hip hp hpk HRP HRO
          go_wp2_with fail
          refine HND.out.mono ?_
          rintro e w7 ⟨rfl, hc7⟩
          have HP7 := Lib.hid (HP6.out.no hc7)
          have e2 := (HBX.out.keep hc7 (fun h => h)).cell 2
          have e3 := (HBX.out.keep hc7 (fun h => h)).cell 3
          have c2 : w7.cell? ⟨X, 2, none⟩ = some (.slice (some ⟨bP, oP, none⟩) k pc) := e2
          have c3 : w7.cell? ⟨X, 3, none⟩ = some (.slice (some ⟨bO, oO, none⟩) k oc) := e3
          have dP7 := hc7.cell_some dP (fun h => h)
          have dO7 := hc7.cell_some dO (fun h => h)
          clear e2 e3 dP dO hc7 HND HBX HP6
          go_wp2_with fail
          clear c2 c3 dP7 dO7 hpr how
          go_loopw [14] (fun i wr => ∃ z : Nat, z ≤ k ∧ i = .int .i64 z ∧ Hid (CP w wr X t g k s4)) (fun i _ => k - (intOf i).toNat)
          case atStart => exact ⟨0, Nat.zero_le _, rfl, HP7⟩
          case round =>
            clear HP7
            obtain ⟨z, hzk, rfl, HP8⟩ := hrel
            by_cases hz : z < k
            · have hz1 : (z : Int) < k := by omega
              have HZK : Hid (z + 1 ≤ k) := Lib.hid hz
              have HZS : Hid (z < s4.n) := Lib.hid (by rw [HP8.out.hn]; exact hz)
              obtain ⟨S8, us, hSX, hin8, hBX, hRD, -⟩ := HP8.out.rel.all
              obtain ⟨pa, pc, oa, oc, wa, wcc, rfl⟩ := cf_opn hRD
              have HWY := Lib.hid (way_any S8 wr.drew t g s4 (hin8.keep ((Chg.refl NoF wr).drew)) HP8.out.bnd.sane p z)
              have hip : s4.is p = true := (s4.is_iff p).2 ⟨p, rfl, HPS.out⟩
              have hiz : s4.is z = true := (s4.is_iff z).2 ⟨z, rfl, HZS.out⟩
              rw [show s4.wayOf p z = s4.ways p z by unfold CNet.wayOf; rw [if_pos ⟨hip, hiz⟩, Int.toNat_natCast, Int.toNat_natCast]] at HWY
              obtain ⟨mm, HMM⟩ : ∃ mm, Hid (p * k = mm) := ⟨_, Lib.hid rfl⟩
              obtain ⟨ix, HIX⟩ : ∃ ix, Hid (mm + z = ix) := ⟨_, Lib.hid rfl⟩
              obtain ⟨nn, HNN⟩ : ∃ nn, Hid (k * k = nn) := ⟨_, Lib.hid rfl⟩
              have HN25 : Hid (nn ≤ 25) := Lib.hid (by rw [← HNN.out]; exact Nat.mul_le_mul HK5.out HK5.out)
              have HIN : Hid (ix < nn) := Lib.hid (by rw [← HIX.out, ← HMM.out, ← HNN.out]; exact flat_lt (by have := HPK.out; omega) hz)
              have hw1 : IntKind.i64.wrap ((p : Int) * (k : Int)) = (mm : Int) := by rw [← Int.natCast_mul, HMM.out]; exact IntWalk.i64_in _ (by have := HIX.out; have := HIN.out; have := HN25.out; omega)
              have hw2 : IntKind.i64.wrap ((mm : Int) + (z : Int)) = (ix : Int) := by rw [← HIX.out, Int.natCast_add]; exact IntWalk.i64_in _ (by have := HIX.out; have := HIN.out; have := HN25.out; omega)
              have hix : (ix : Int) < nn := by have := HIN.out; omega
              have c4 : wr.cell? ⟨X, 4, none⟩ = some (.slice wa (s4.n * s4.n) wcc) := hBX.cell 4
              have HWR : Rd2 (fun b => S8 b ∧ b ≠ X) wr (.slice wa (s4.n * s4.n) wcc) (flat s4.n s4.ways) := RdS.at (f := .r (flat s4.n s4.ways)) 4 hRD rfl rfl
              obtain ⟨bG, oG, cG, u, ev, dr, hru, hrl⟩ := HWR.at (Chg.refl NoF wr) (fun _ _ h => h) (j := ix) (by rw [flat_len, HP8.out.hn, HNN.out]; exact HIN.out)
              rw [← HIX.out, ← HMM.out, ← HP8.out.hn, flat_at _ HPS.out HZS.out] at hru hrl
              rw [flat_len] at ev
              simp only [Value.slice.injEq] at ev
              obtain ⟨rfl, -, rfl⟩ := ev
              rw [HP8.out.hn, HNN.out] at c4
              have HRU := Lib.hid hru
              have HRL := Lib.hid hrl
              obtain ⟨ua', uc', rfl⟩ := hru.val
              obtain ⟨gl, HGL⟩ : ∃ gl, Hid ((s4.ways p z).length = gl) := ⟨_, Lib.hid rfl⟩
              rw [HGL.out] at dr HRU
              clear hSX hin8 hBX hRD hip hiz hru hrl hz hzk HWR
              go_wp2_with fail
              refine wp_region_plan (Chg NoF wr) 15 [(0,true),(1,true),(2,true),(4,true),(5,true),(6,true),(7,true),(8,true),(9,true),(10,true),(11,true),(12,true),(3,false),(13,false),(14,true)] mixed (by kernel_rfl) (Chg.refl _ _).drew ?_
              simp only [planOps, List.map_cons, List.map_nil, List.getElem?_cons_zero, List.getElem?_cons_succ, Option.getD_some]
              generalize hops : List.toArray _ = ops
              iterate 12 (refine wpPlan_quiet (v := ?_) rfl (fun _ _ _ h => h) (by intro w1 hS; have s0 := hS.cell_some c4 (fun h => h); have s1 := hS.cell_some dr (fun h => h); clear hS; go_simp; with_reducible rfl) ?_; (simp only [Act.put, List.setIfInBounds_toArray, List.set_cons_zero, List.set_cons_succ]))
              refine wpPlan_loud rfl (fun K hK => ?_)
              go_simp
              refine HWY.out.mono ?_
              rintro e w9 ⟨vg, rfl, hrd, hc9⟩
              have HC9 : Hid (Chg NoF wr w9) := Lib.hid (((Chg.refl NoF wr).drew).trans hc9)
              have HGV := Lib.hid (hrd.mono (S' := fun _ => True) (fun _ _ _ => trivial))
              refine hK _ _ (fun _ => HC9.out) ?_
              clear hK K hrd hc9 HWY
              (try simp only [Act.put, List.setIfInBounds_toArray, List.set_cons_zero, List.set_cons_succ])
              refine wpPlan_loud rfl (fun K hK => ?_)
              go_simp
              refine (ints_any (fun _ => True) _ _ _ _ w9 HGV.out ((HRU.out.keep HC9.out (fun _ _ h => h)).mono (fun _ _ _ => trivial)) HRL.out HRL.out).mono ?_
              rintro e w10 ⟨rfl, kz, rfl⟩
              simp only [decide_true]
              refine hK _ _ (fun _ => HC9.out.drewN kz) ?_
              clear hK K
              (try simp only [Act.put, List.setIfInBounds_toArray, List.set_cons_zero, List.set_cons_succ])
              (refine wpPlan_quiet (v := ?_) rfl (fun _ _ _ h => h) (by intro w1 hS; clear hS; go_simp; with_reducible rfl) ?_; (simp only [Act.put, List.setIfInBounds_toArray, List.set_cons_zero, List.set_cons_succ]))
              clear hops
              refine wpPlan_nil ?_
              have HP9 : Hid (CP w (w9.drewN kz) X t g k s4) := Lib.hid (HP8.out.no (HC9.out.drewN kz))
              clear c4 dr hw1 hw2 hix HP8
              have hk5 := HK5.out
              generalize w9.drewN kz = w11 at *
              go_wp2
              go_roundw
              case rel => exact ⟨z + 1, HZK.out, by go_num, HP9⟩
              case measure => have := HZK.out; simp [intOf]; omega
            · have hz1 : ¬ (z : Int) < k := by omega
              have hk5 := HK5.out
              clear hz hzk
              go_wp2
              go_roundw
              case rel => first | exact ⟨p + 1, HPK.out, by go_num, HP8⟩ | ((repeat apply Exists.intro); exact ⟨⟨HPK.out, by go_num, HP8⟩, rfl⟩)
              case measure => have := HPK.out; simp [intOf]; omega
        · have hp1 : ¬ (p : Int) < k := by omega
          clear hp hpk
          go_wp2
          go_roundw
          case rel => first | exact ⟨j + 1, HJJ.out.1, HJJ.out.2, by go_num, s4, HP6⟩ | ((repeat apply Exists.intro); exact ⟨⟨HJJ.out.1, HJJ.out.2, by go_num, HP6⟩, rfl⟩)
          case measure => have := HJJ.out; simp [intOf]; omega
    · have hb : ¬ (j : Int) < sl ∨ ((j : Int) < sl ∧ ¬ (j : Int) < 200) := by omega
      clear hlt hjsl hj150
      obtain ⟨S5, hin5, -⟩ := HP.out.rel.net
      have HIN := Lib.hid hin5
      have hno : s.is k = false := by
        cases h : s.is k with
        | false => rfl
        | true =>
          obtain ⟨a, h1, h2⟩ := (s.is_iff k).1 h
          rw [HP.out.hn] at h2; omega
      have hno2 : s.is (-1) = false := by
        cases h : s.is (-1) with
        | false => rfl
        | true =>
          obtain ⟨a, h1, h2⟩ := (s.is_iff (-1)).1 h
          omega
      have HND := Lib.hid (node_any S5 wr t g s HIN.out HP.out.bnd.inv.n1 k)
      have HWY := Lib.hid (fun w6 (h : CIn S5 w6 t g s) => way_any S5 w6 t g s h HP.out.bnd.sane (-1) 0)
      rw [show s.nodeAt k = -1 by unfold CNet.nodeAt; rw [if_neg (by rw [hno]; simp)], show s.nodeOwed k = 0 by unfold CNet.nodeOwed; rw [if_neg (by rw [hno]; simp)]] at HND
      rw [show s.wayOf (-1) 0 = [] by unfold CNet.wayOf; rw [if_neg (by rw [hno2]; simp)]] at HWY
      clear hno hno2 hin5
      rcases hb with hb | ⟨hb1, hb2⟩
      all_goals
        go_wp2_with fail
        refine HND.out.mono ?_
        rintro e w7 ⟨rfl, hc7⟩
        have HP7 := Lib.hid (HP.out.no hc7)
        have HIN7 := Lib.hid (HIN.out.keep hc7)
        clear hc7
        go_wp2_with fail
        refine (HWY.out w7 HIN7.out).mono ?_
        rintro e w8 ⟨vg, rfl, hrd, hc8⟩
        obtain ⟨ga', gc', rfl⟩ := hrd.val
        have HP8 := Lib.hid (HP7.out.no hc8)
        clear hrd hc8 HP7 HND HWY
        go_wp2
        go_ret
        exact ⟨rfl, HP8.out.rel.chg⟩

end Go.Proofs.YtbckjmbhipofaaaDoor
