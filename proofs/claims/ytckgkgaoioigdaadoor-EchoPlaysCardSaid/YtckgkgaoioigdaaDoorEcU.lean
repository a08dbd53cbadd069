/-
  The walk of EchoPlays: the program's wave and the document's tell the same, whatever is near and whatever steps are taken.
  Conditions: what is near and the steps are read as lists of integers; package errors' variable errorType holds the handle of the type 'error'.
-/
import Derived.Test.YtckgkgaoioigdaaDoorEcP
import Derived.Test.YtckgkgaoioigdaaDoorEcQ
import Derived.Test.YtckgkgaoioigdaaDoorPlay
import Derived.Test.YtckgkgaoioigdaaDoorDoor
namespace Go.Proofs.YtckgkgaoioigdaaDoor
open Go Go.RowKit

theorem echoAdopts (t : Nat) (s : Wv) : Adopts fun S w => WIn S w t s where
  mono := fun h hS => h.mono hS
  adopt := fun {S F w w1} h hc hF => by
    obtain ⟨V, tag, h⟩ := h
    obtain ⟨tag', h'⟩ := Mem.adopt h hc hF
    exact ⟨V, tag', h'⟩

/-- The program's wave, and the document's in block X. -/
structure WP (w w' : World) (X t n : Nat) (s : Wv) : Prop where
  rel : PRel w w' X (fun S wr => WIn S wr t s) (ef s)
  inv : EInv s
  hn : s.n = n

theorem WP.no {w w' w1 : World} {X t n : Nat} {s : Wv} (h : WP w w' X t n s) (hc : Chg NoF w' w1) : WP w w1 X t n s := ⟨h.rel.no (echoAdopts t s) hc, h.inv, h.hn⟩

theorem stepErr_rng (s : Wv) (p q : Int) : 0 ≤ s.stepErr p q ∧ s.stepErr p q ≤ 9 := by
  unfold Wv.stepErr
  (repeat' split) <;> omega
theorem checkErr_rng (l : List Int) : 0 ≤ checkErr l ∧ checkErr l ≤ 9 := by
  unfold checkErr
  (repeat' split) <;> omega
theorem init_n (n : Nat) (near : Nat → Nat) : (Wv.init n near).n = n := by
  have h1 : ((Wv.blank n near).spread 0 (near 0)).n = n := spreadTo_n _ _ _ _
  unfold Wv.init Wv.back
  split
  · exact h1
  · rw [if_pos rfl]; exact h1
theorem near_line {l : List Int} (h : ∀ i, i < l.length → l.getD i 0 = (nearOf l i : Int)) : l = lineN l.length (nearOf l) := by
  unfold lineN line
  apply List.ext_getElem
  · simp
  · intro i h1 h2
    have := h i h1
    rw [List.getD, List.getElem?_eq_getElem h1] at this
    simpa using this

set_option maxHeartbeats 2000000 in
theorem way_out (S : Nat → Prop) (w : World) (t : Nat) (s : Wv) (h : WIn S w t s) (hn1 : 1 ≤ s.n) (hn5 : s.n ≤ 5) (p q : Int) (hpq : s.is p q = false) :
    Calls Tryd.prog 15 #[.pointer (some ⟨t, 0, none⟩), .int .i64 p, .int .i64 q] w fun e w' => e = .returned (.int .i64 0) ∧ w = w' := by
  obtain ⟨V, tag, h⟩ := h
  obtain ⟨bN, cN, -, -, -, c0⟩ := h.nearAt hn1
  obtain ⟨n, hN⟩ : ∃ n, Hid (s.n = n) := ⟨_, Lib.hid rfl⟩
  rw [s.in_iff, hN.out] at hpq
  rw [hN.out] at c0 hn5 hn1
  have hw1 : wrap64 ((n : Int) - 1) = (n : Int) - 1 := IntWalk.wrap64_in _ (by omega)
  clear h
  cases hp : inB p 0 ((n : Int) - 1) with
  | false =>
    have HP := Lib.hid hp
    clear hp hpq
    go_enter Tryd.func15, Tryd.ntmps15
    go_wp2_with fail
    refine (within_any _ _ _ _).mono ?_
    rintro e w' ⟨rfl, rfl⟩
    rw [HP.out]
    go_wp2
    go_ret
    exact ⟨rfl, rfl⟩
  | true =>
    have hq : inB q 0 ((n : Int) - 1) = false := by rw [hp] at hpq; simpa using hpq
    have HP := Lib.hid hp
    have HQ := Lib.hid hq
    clear hp hq hpq
    go_enter Tryd.func15, Tryd.ntmps15
    go_wp2_with fail
    refine (within_any _ _ _ _).mono ?_
    rintro e w' ⟨rfl, rfl⟩
    rw [HP.out]
    go_wp2_with fail
    refine (within_any _ _ _ _).mono ?_
    rintro e w' ⟨rfl, rfl⟩
    rw [HQ.out]
    go_wp2
    go_ret
    exact ⟨rfl, rfl⟩

set_option maxHeartbeats 16000000 in
set_option maxRecDepth 100000 in
theorem ecplays_walk (nv v : Value) (nl : List Int) (ll : List (List Int)) (w : World) (hg : As.Met w) (hnr : Rd (fun k => k < w.heap.size) w nv nl) (hnb : nl.length ≤ 9223372036854775807) (hr : Rd2 (fun k => k < w.heap.size) w v ll) (hlb : ll.length ≤ 9223372036854775807) :
    Calls Tryd.prog 3 #[nv, v] w fun e w' => e = .returned (.bool true) ∧ Chg (NewB w) w w' := by
  have HR := Lib.hid hr
  have HNR := Lib.hid hnr
  have HNB := Lib.hid hnb
  have HG := Lib.hid hg
  clear hr hg hnr hnb
  obtain ⟨ec, HEC⟩ : ∃ ec, Hid (checkErr nl = ec) := ⟨_, Lib.hid rfl⟩
  have HER : Hid (0 ≤ ec ∧ ec ≤ 9) := Lib.hid (by rw [← HEC.out]; exact checkErr_rng nl)
  go_enter Tryd.func3, Tryd.ntmps3
  go_wp2_with fail
  refine (near_ref _ nv nl w HNR.out HNB.out).mono ?_
  rintro e w1 ⟨rfl, hc1⟩
  have HC1 := Lib.hid hc1
  clear hc1
  rw [HEC.out]
  go_wp2_with fail
  refine (new_any _ nv nl w1 (HNR.out.keep HC1.out (fun _ _ h => h)) HNB.out).mono ?_
  rintro e w2 ⟨hc2, hnew⟩
  have HC2 := Lib.hid hc2
  have HC02 : Hid (Chg NoF w w2) := Lib.hid (HC1.out.trans hc2)
  clear hc2
  rw [HEC.out] at hnew
  have HCK := Lib.hid (check_any _ nv nl w2 (HNR.out.keep HC02.out (fun _ _ h => h)) HNB.out)
  rw [HEC.out] at HCK
  rcases hnew with ⟨hne, rfl⟩ | ⟨hok, t, rfl, hin⟩
  · have hec : (ec != 0) = true := by rw [bne_iff_ne]; exact hne
    clear hne
    go_wp2_with fail
    refine HCK.out.mono ?_
    rintro e wq ⟨rfl, rfl⟩
    clear HCK
    go_wp2_with fail
    refine (error_any ec ec (by have := HER.out; omega) (by have := HER.out; omega) w2 (HG.out.no HC02.out)).mono ?_
    rintro e w3 ⟨rfl, hc3⟩
    have HC3 := Lib.hid hc3
    clear hc3
    simp only [decide_true]
    go_wp2_with fail
    refine (error_any ec ec (by have := HER.out; omega) (by have := HER.out; omega) w3 (HG.out.no (HC02.out.trans HC3.out))).mono ?_
    rintro e w4 ⟨rfl, hc4⟩
    simp only [decide_true]
    go_wp2
    go_ret
    exact ⟨rfl, ((HC02.out.trans HC3.out).trans hc4).ofNo⟩
  subst hok
  have HIN := Lib.hid hin
  obtain ⟨hnet, hvals⟩ := check_net HEC.out
  have HNL := Lib.hid (near_line hvals)
  have HNET := Lib.hid hnet
  clear hin hnet hvals
  obtain ⟨pv, cv, rfl⟩ := HR.out.val
  obtain ⟨nr, HNRO⟩ : ∃ nr, Hid (nearOf nl = nr) := ⟨_, Lib.hid rfl⟩
  obtain ⟨pn, cn, rfl⟩ := HNR.out.val
  obtain ⟨n, hN⟩ : ∃ n, Hid (nl.length = n) := ⟨_, Lib.hid rfl⟩
  rw [hN.out, HNRO.out] at HNET HNL HIN
  rw [hN.out] at HNR HCK ⊢
  rw [HNL.out] at HNR
  obtain ⟨sl, hSL⟩ : ∃ sl, Hid (ll.length = sl) := ⟨_, Lib.hid rfl⟩
  rw [hSL.out] at hlb HR ⊢
  go_wp2_with fail
  refine HCK.out.mono ?_
  rintro e wq ⟨rfl, rfl⟩
  clear HCK
  go_wp2_with fail
  refine (error_any 0 0 (by omega) (by omega) w2 (HG.out.no HC02.out)).mono ?_
  rintro e w3 ⟨rfl, hc3⟩
  have HC3 := Lib.hid hc3
  clear hc3
  simp only [decide_true]
  go_wp2_with fail
  refine (newWave_ref (fun k => k < w.heap.size) _ n nr w3 (HNR.out.keep (HC02.out.trans HC3.out) (fun _ _ h => h)) HNET.out).mono ?_
  rintro e w4 ⟨vx, rfl, us, rfl, hrx, hc4⟩
  have HRX := Lib.hid hrx
  have HC4 := Lib.hid hc4
  clear hrx hc4
  go_wp2_with (refine wpList_plain rfl (fun K hK => wp_storeT aggWave _ _ rfl w4.heap.size us [.slice none 0 0, .slice none 0 0, .slice none 0 0, .slice none 0 0, .int .i64 0, .bool false] (by rfl) (by rfl) HRX.out.len (Blk.alloc w4 [.slice none 0 0, .slice none 0 0, .slice none 0 0, .slice none 0 0, .int .i64 0, .bool false] 33) rfl HRX.out.one ?_); intro w5 hB5 hc5; have HB5 := Lib.hid hB5; have HC5 := Lib.hid hc5; clear hB5 hc5; refine hK _ _ ?_; clear hK)
  have HP0 : Hid (WP w w5 w4.heap.size t n (Wv.init n nr)) := Lib.hid (by
    have hcn : Chg NoF w4 w5 := ((Chg.refl NoF w4).alloc (.cells #[.slice none 0 0, .slice none 0 0, .slice none 0 0, .slice none 0 0, .int .i64 0, .bool false] 33)).trans2 HC5.out fun i _ hi => .inr (by have hi : i = w4.heap.size := hi; omega)
    have hz1 := HC1.out.size
    have hz2 := HC2.out.size
    have hz3 := HC3.out.size
    have hz4 := HC4.out.size
    have hz5 : w4.heap.size < w5.heap.size := HB5.out.lt
    refine ⟨⟨⟨Plus (fun b => b < w1.heap.size) w2 w5, us, fun b hb => .inl (by omega), .inr ⟨by omega, hz5⟩, (echoAdopts t _).adopt HIN.out ((HC3.out.trans HC4.out).trans hcn) (fun _ _ h => h.elim), HB5.out, ?_⟩, (((HC02.out.trans HC3.out).trans HC4.out).trans hcn).ofNo, by omega⟩, init_inv HNET.out, init_n n nr⟩
    refine (HRX.out.mono (S' := fun b => Plus (fun b => b < w1.heap.size) w2 w5 b ∧ b ≠ w4.heap.size) (fun b hb h => ?_)).keep hcn (fun _ _ h => h)
    rcases h with h | h
    · exact ⟨.inl (by omega), by omega⟩
    · exact ⟨.inr ⟨by omega, by omega⟩, by omega⟩)
  obtain ⟨X, HX⟩ : ∃ X, Hid (w4.heap.size = X) := ⟨_, Lib.hid rfl⟩
  rw [HX.out] at HP0 ⊢
  have HN1 : Hid (1 ≤ n ∧ n ≤ 5) := Lib.hid ⟨HNET.out.n1, HNET.out.n5⟩
  clear HIN HC1 HC2 HC02 HC3 HC4 HB5 HC5 HRX HNET HNL HNR HER HX
  go_loopw [10, 11, 12, 13, 14] (fun i _ _ _ _ wr => ∃ j : Nat, j ≤ sl + 1 ∧ j ≤ 100 ∧ i = .int .i64 j ∧ ∃ s, Hid (WP w wr X t n s)) (fun i _ _ _ _ _ => 100 - (intOf i).toNat)
  case atStart => exact ⟨0, Nat.zero_le _, Nat.zero_le _, rfl, _, HP0⟩
  case round =>
    clear HP0
    obtain ⟨j, hjsl, hj100, rfl, s, HP⟩ := hrel
    by_cases hlt : j ≤ sl ∧ j < 100
    · obtain ⟨hlt1, hlt2⟩ := hlt
      have hj1 : (j : Int) ≤ sl := by omega
      have hj2 : (j : Int) < 100 := by omega
      have HJJ : Hid (j ≤ sl ∧ j < 100) := Lib.hid ⟨hlt1, hlt2⟩
      clear hlt1 hlt2 hjsl hj100
      obtain ⟨B, HBB⟩ : ∃ zz, Hid (decide (0 < j ∧ (ll.getD (j - 1) []).length = 2) = zz) := ⟨_, Lib.hid rfl⟩
      go_upto_region 12 with fail
      go_cut [60] (fun c wx => c = .bool B ∧ wr = wx)
      case first =>
        by_cases hj0 : j = 0
        · have hjz : ¬ (0 : Int) < (j : Int) := by omega
          have hB : B = false := by rw [← HBB.out]; exact decide_eq_false (fun h => by omega)
          clear hj0
          go_wp2_with fail
          go_meet
          case rel => exact ⟨by rw [hB], rfl⟩
        obtain ⟨m, HJM⟩ : ∃ m, Hid (j = m + 1) := ⟨j - 1, Lib.hid (by omega)⟩
        have HW : Hid (IntKind.i64.wrap ((j : Int) - 1) = (m : Int) ∧ wrap64 ((j : Int) - 1) = (m : Int)) := Lib.hid (wrap_less (by have := HJM.out; omega) (by omega) (by have := HJM.out; have := HJJ.out; omega))
        have hmsl : m < sl := by have := HJM.out; have := HJJ.out; omega
        have hm1 : (m : Int) < sl := by omega
        obtain ⟨b, off, c, u, e1, hcell, hrow, hrl⟩ := HR.out.at (Chg.refl (NewB w) w) (fun b hb hn => hn hb) (j := m) (by rw [hSL.out]; exact hmsl)
        simp only [Value.slice.injEq] at e1
        obtain ⟨rfl, -, rfl⟩ := e1
        have HROW := Lib.hid hrow
        obtain ⟨ua, uc, rfl⟩ := hrow.val
        obtain ⟨ln, HLN⟩ : ∃ ln, Hid ((ll.getD m []).length = ln) := ⟨_, Lib.hid rfl⟩
        rw [HLN.out] at HROW hcell
        have nb0 : ¬ NewB w b := fun hn => hn (World.block_lt_of_cell? w _ hcell)
        have hcw := HP.out.rel.chg.cell_some hcell nb0
        have hjz : (0 : Int) < (j : Int) := by omega
        have hBM : (0 < j ∧ (ll.getD (j - 1) []).length = 2) ↔ ln = 2 := by rw [show j - 1 = m by have := HJM.out; omega, HLN.out]; exact ⟨fun h => h.2, fun h => ⟨by omega, h⟩⟩
        clear hrow hrl hmsl hj0
        by_cases hl1 : ln = 2
        case neg =>
          have hb1 : ((ln : Int) == 2) = false := by rw [beq_eq_false_iff_ne]; omega
          have hB : B = false := by rw [← HBB.out]; exact decide_eq_false (fun h => hl1 (hBM.1 h))
          clear hBM
          have hw1 := HW.out.1
          have hw2 := HW.out.2
          go_wp2_with fail
          go_meet
          case rel => exact ⟨by rw [hB], rfl⟩
        case pos =>
          subst hl1
          have hB : B = true := by rw [← HBB.out]; exact decide_eq_true (hBM.2 rfl)
          clear hBM
          have hw1 := HW.out.1
          have hw2 := HW.out.2
          go_wp2_with fail
          go_meet
          case rel => exact ⟨by rw [hB], rfl⟩
      case rest =>
      obtain ⟨rfl, rfl⟩ := hcut
      go_upto_if 60 with fail
      go_cut [11, 12] (fun _ _ wx => ∃ s', Hid (WP w wx X t n s'))
      case first =>
        cases hB : B with
        | false =>
          go_wp2_with fail
          go_meet
          case rel => exact ⟨s, HP⟩
        | true =>
          obtain ⟨hj0, hl0⟩ : 0 < j ∧ (ll.getD (j - 1) []).length = 2 := of_decide_eq_true (HBB.out.trans hB)
          clear hB
          obtain ⟨m, HJM⟩ : ∃ m, Hid (j = m + 1) := ⟨j - 1, Lib.hid (by omega)⟩
          have HW : Hid (IntKind.i64.wrap ((j : Int) - 1) = (m : Int) ∧ wrap64 ((j : Int) - 1) = (m : Int)) := Lib.hid (wrap_less (by have := HJM.out; omega) (by omega) (by have := HJM.out; have := HJJ.out; omega))
          have hmsl : m < sl := by have := HJM.out; have := HJJ.out; omega
          have hm1 : (m : Int) < sl := by omega
          obtain ⟨b, off, c, u, e1, hcell, hrow, hrl⟩ := HR.out.at (Chg.refl (NewB w) w) (fun b hb hn => hn hb) (j := m) (by rw [hSL.out]; exact hmsl)
          simp only [Value.slice.injEq] at e1
          obtain ⟨rfl, -, rfl⟩ := e1
          have HROW := Lib.hid hrow
          obtain ⟨ua, uc, rfl⟩ := hrow.val
          obtain ⟨ln, HLN⟩ : ∃ ln, Hid ((ll.getD m []).length = ln) := ⟨_, Lib.hid rfl⟩
          rw [HLN.out] at HROW hcell
          have nb0 : ¬ NewB w b := fun hn => hn (World.block_lt_of_cell? w _ hcell)
          have hcw := HP.out.rel.chg.cell_some hcell nb0
          have hl1 : ln = 2 := by rw [← HLN.out, show m = j - 1 by have := HJM.out; omega]; exact hl0
          clear hrow hrl hmsl hj0 hl0
          subst hl1
          obtain ⟨b1, o1, c1, e1, -, hl⟩ := HROW.out.form (by rw [HLN.out]; omega)
          rw [HLN.out] at hl e1
          simp only [Value.slice.injEq] at e1
          obtain ⟨rfl, -, rfl⟩ := e1
          have dw := hl 0 (by omega)
          obtain ⟨x, HXX⟩ : ∃ x, Hid ((ll.getD m []).getD 0 0 = x) := ⟨_, Lib.hid rfl⟩
          rw [HXX.out, Nat.add_zero] at dw
          have dv := hl 1 (by omega)
          obtain ⟨y, HYY⟩ : ∃ y, Hid ((ll.getD m []).getD 1 0 = y) := ⟨_, Lib.hid rfl⟩
          rw [HYY.out] at dv
          have nd0 : ¬ NewB w b1 := fun hn => hn (World.block_lt_of_cell? w _ dw)
          have d0 := HP.out.rel.chg.cell_some dw nd0
          have d1 := HP.out.rel.chg.cell_some dv nd0
          obtain ⟨S1, us, hS1, hBX, hRD, hput⟩ := HP.out.rel.doc (echoAdopts t s)
          have HS1 := Lib.hid hS1
          have HBX := Lib.hid hBX
          have HRD := Lib.hid hRD
          have HPUT := Lib.hid hput
          have HUL : Hid (us.length = 6) := Lib.hid hRD.len
          have HER := Lib.hid (stepErr_rng s x y)
          have HSR := Lib.hid (fun wq (h : RdS S1 wq us (ef s)) => stepw_ref S1 wq us s h HP.out.inv.bnd (by omega) HP.out.inv x y)
          have HNT := Lib.hid (fun S5 w5 (h : WIn S5 w5 t s) => step_any S5 w5 t s h HP.out.inv x y)
          have HI2 := Lib.hid (HP.out.inv.step x y)
          have HNN : Hid ((s.step x y).n = n) := Lib.hid ((s.step_n x y HP.out.inv.net.n5).1.trans HP.out.hn)
          obtain ⟨s9, HS9⟩ : ∃ s9, Hid (s.step x y = s9) := ⟨_, Lib.hid rfl⟩
          obtain ⟨ke, HKE⟩ : ∃ ke, Hid (s.stepErr x y = ke) := ⟨_, Lib.hid rfl⟩
          unfold ErrPost at HNT
          unfold WAns at HSR
          rw [HS9.out] at HSR HNT HI2 HNN
          rw [HKE.out] at HSR HNT HER
          clear hS1 hBX hRD hput hl HROW
          have hw1 := HW.out.1
          have hw2 := HW.out.2
          go_upto_region 13 with fail
          go_cut [11, 12] (fun y ce wx => ∃ Y, y = .pointer (some ⟨Y, 0, none⟩) ∧ ce = .int .i64 ke ∧ Hid (YR S1 wr wx Y (ef s9)))
          case first =>
            refine wp_region_pl (Chg NoF wr) 22 (.q 0 (.q 1 (.q 2 (.q 3 (.q 4 (.q 5 (.q 6 (.q 7 (.q 8 (.q 9 (.q 10 (.q 11 (.q 12 (.q 13 (.q 14 (.b2 15 19 (.q 16 (.q 17 (.q 18 (.l 19 (.l 20 (.q 21 .nil)))))) (.l 15 (.q 16 (.q 17 (.q 18 (.l 20 (.q 21 .nil)))))))))))))))))))))) mixed (by kernel_rfl) (Chg.refl _ wr).drew ?_
            refine wpPl_quiet (by simp only [opAt, List.getElem?_cons_zero, List.getElem?_cons_succ, Option.getD_some]; rfl) (by rfl) (by exact fun _ _ _ h => h) (fun w1 hS => quiet_loadT aggWave _ rfl X us (by rfl) (HBX.out.keep hS (fun h => h)) HUL.out) ?_; (simp only [Act.put, List.setIfInBounds_toArray, List.set_cons_zero, List.set_cons_succ])
            iterate 14 (refine wpPl_quiet (v := ?_) (by simp only [opAt, List.getElem?_cons_zero, List.getElem?_cons_succ, Option.getD_some]; rfl) (by rfl) (by exact fun _ _ _ h => h) (by intro w1 hS; have s0 := hS.cell_some hcw (fun h => h); have s1 := hS.cell_some d0 (fun h => h); have s2 := hS.cell_some d1 (fun h => h); clear hS; go_simp; with_reducible rfl) ?_; (simp only [Act.put, List.setIfInBounds_toArray, List.set_cons_zero, List.set_cons_succ]))
            refine wpPl_b2 (by simp only [opAt, List.getElem?_cons_zero, List.getElem?_cons_succ, Option.getD_some]; rfl) (by rfl) (by simp only [opAt, List.getElem?_cons_zero, List.getElem?_cons_succ, Option.getD_some]; rfl) (by rfl) (fun K hK => ?_) (fun K hK => ?_)
            · go_simp
              refine (HSR.out _ (HRD.out.keep ((Chg.refl NoF wr).drew) (fun _ _ h => h))).mono ?_
              rintro e w1 ⟨v1, rfl, us1, rfl, hr1, hc1⟩
              have hcz1 : Chg NoF wr w1 := ((Chg.refl NoF wr).drew).trans hc1
              refine hK _ _ (fun _ => hcz1) ?_
              clear hK
              (try simp only [Act.put, List.setIfInBounds_toArray, List.set_cons_zero, List.set_cons_succ])
              iterate 3 (refine wpPl_quiet (v := ?_) (by simp only [opAt, List.getElem?_cons_zero, List.getElem?_cons_succ, Option.getD_some]; rfl) (by rfl) (by exact fun _ _ _ h => h) (by intro w1 hS; clear hS; go_simp; with_reducible rfl) ?_; (simp only [Act.put, List.setIfInBounds_toArray, List.set_cons_zero, List.set_cons_succ]))
              refine wpPl_l (by simp only [opAt, List.getElem?_cons_zero, List.getElem?_cons_succ, Option.getD_some]; rfl) (by rfl) (fun K hK => ?_)
              go_simp
              refine hK _ _ (fun _ => hcz1.alloc _) ?_
              clear hK
              (try simp only [Act.put, List.setIfInBounds_toArray, List.set_cons_zero, List.set_cons_succ])
              refine wpPl_l (by simp only [opAt, List.getElem?_cons_zero, List.getElem?_cons_succ, Option.getD_some]; rfl) (by rfl) (fun K hK => ?_)
              refine wp_storeT aggWave _ _ rfl w1.heap.size us1 [.slice none 0 0, .slice none 0 0, .slice none 0 0, .slice none 0 0, .int .i64 0, .bool false] (by rfl) (by rfl) hr1.len (Blk.alloc w1 [.slice none 0 0, .slice none 0 0, .slice none 0 0, .slice none 0 0, .int .i64 0, .bool false] 33) rfl hr1.one ?_
              intro wz hBz hcz
              have hyr := Lib.hid (YR.mk1 (S1 := S1) (zs := [.slice none 0 0, .slice none 0 0, .slice none 0 0, .slice none 0 0, .int .i64 0, .bool false]) hcz1 hr1 33 hBz hcz)
              refine hK _ _ (fun _ => hyr.out.chg) ?_
              clear hK
              (try simp only [Act.put, List.setIfInBounds_toArray, List.set_cons_zero, List.set_cons_succ])
              (refine wpPl_quiet (v := ?_) (by simp only [opAt, List.getElem?_cons_zero, List.getElem?_cons_succ, Option.getD_some]; rfl) (by rfl) (by exact fun _ _ _ h => h) (by intro w1 hS; clear hS; go_simp; with_reducible rfl) ?_; (simp only [Act.put, List.setIfInBounds_toArray, List.set_cons_zero, List.set_cons_succ]))
              refine wpPl_nil ?_
              clear hBz hcz hcz1 hr1 hc1
              go_wp2_with fail
              go_meet
              case rel => exact ⟨w1.heap.size, rfl, rfl, hyr⟩
            · go_simp
              refine hK _ _ (fun _ => ((Chg.refl NoF wr).drew).alloc _) ?_
              clear hK
              (try simp only [Act.put, List.setIfInBounds_toArray, List.set_cons_zero, List.set_cons_succ])
              refine wpPl_l (by simp only [opAt, List.getElem?_cons_zero, List.getElem?_cons_succ, Option.getD_some]; rfl) (by rfl) (fun K hK => ?_)
              go_simp
              refine (HSR.out _ (HRD.out.keep (((Chg.refl NoF wr).drew).alloc _) (fun _ _ h => h))).mono ?_
              rintro e w1 ⟨v1, rfl, us1, rfl, hr1, hc1⟩
              have hcz1 : Chg NoF wr w1 := (((Chg.refl NoF wr).drew).alloc _).trans hc1
              refine hK _ _ (fun _ => hcz1) ?_
              clear hK
              (try simp only [Act.put, List.setIfInBounds_toArray, List.set_cons_zero, List.set_cons_succ])
              iterate 3 (refine wpPl_quiet (v := ?_) (by simp only [opAt, List.getElem?_cons_zero, List.getElem?_cons_succ, Option.getD_some]; rfl) (by rfl) (by exact fun _ _ _ h => h) (by intro w1 hS; clear hS; go_simp; with_reducible rfl) ?_; (simp only [Act.put, List.setIfInBounds_toArray, List.set_cons_zero, List.set_cons_succ]))
              refine wpPl_l (by simp only [opAt, List.getElem?_cons_zero, List.getElem?_cons_succ, Option.getD_some]; rfl) (by rfl) (fun K hK => ?_)
              refine wp_storeT aggWave _ _ rfl wr.heap.size us1 [.slice none 0 0, .slice none 0 0, .slice none 0 0, .slice none 0 0, .int .i64 0, .bool false] (by rfl) (by rfl) hr1.len ((Blk.alloc wr.drew [.slice none 0 0, .slice none 0 0, .slice none 0 0, .slice none 0 0, .int .i64 0, .bool false] 33).keep hc1 (fun h => h)) rfl hr1.one ?_
              intro wz hBz hcz
              have hyr := Lib.hid ((YR.mk2 (S1 := S1) (w := wr.drew) (Y := wr.heap.size) (zs := [.slice none 0 0, .slice none 0 0, .slice none 0 0, .slice none 0 0, .int .i64 0, .bool false]) rfl HS1.out 33 hc1 hr1 hBz hcz).ofDrew)
              refine hK _ _ (fun _ => hyr.out.chg) ?_
              clear hK
              (try simp only [Act.put, List.setIfInBounds_toArray, List.set_cons_zero, List.set_cons_succ])
              (refine wpPl_quiet (v := ?_) (by simp only [opAt, List.getElem?_cons_zero, List.getElem?_cons_succ, Option.getD_some]; rfl) (by rfl) (by exact fun _ _ _ h => h) (by intro w1 hS; clear hS; go_simp; with_reducible rfl) ?_; (simp only [Act.put, List.setIfInBounds_toArray, List.set_cons_zero, List.set_cons_succ]))
              refine wpPl_nil ?_
              clear hBz hcz hcz1 hr1 hc1
              go_wp2_with fail
              go_meet
              case rel => exact ⟨wr.heap.size, rfl, rfl, hyr⟩
          case rest =>
          obtain ⟨Y, rfl, rfl, HY⟩ := hcut
          obtain ⟨us', hcY, hBY, hRY⟩ := HY.out
          have HYC := Lib.hid hcY
          have HYB := Lib.hid hBY
          have HYR := Lib.hid hRY
          have HXC : Hid (Blk wc X us) := Lib.hid (HBX.out.keep hcY (fun h => h))
          clear hcY hBY hRY HY d0 d1 hcw HBX HRD HSR hw1 hw2
          go_wp2_with (first
            | (refine wpList_plain rfl (fun K hK => wp_loadT aggWave _ rfl Y us' (by rfl) HYB.out HYR.out.len ?_); refine hK _ _ ?_; clear hK)
            | (refine wpList_plain rfl (fun K hK => wp_storeT aggWave _ _ rfl X us' us (by rfl) (by rfl) HYR.out.len HXC.out HUL.out HYR.out.one ?_); intro w5 hB5 hc5; have HP5 := Lib.hid (HPUT.out _ _ _ _ HYC.out HYR.out hB5 hc5); clear hB5 hc5; refine hK _ _ ?_; clear hK))
          clear HXC HYC HYB HYR HPUT
          have hw1 := HW.out.1
          have hw2 := HW.out.2
          refine wp_region_plan (Chg (NewB w) w) 19 [(0,true),(1,true),(2,true),(3,true),(4,true),(5,true),(6,true),(7,true),(8,true),(9,true),(10,true),(11,true),(12,true),(13,true),(14,true),(16,true),(15,false),(17,false),(18,true)] mixed (by kernel_rfl) (HP5.out.chg.drew) ?_
          simp only [planOps, List.map_cons, List.map_nil, List.getElem?_cons_zero, List.getElem?_cons_succ, Option.getD_some]
          generalize hops : List.toArray _ = ops
          iterate 16 (refine wpPlan_quiet (v := ?_) rfl (fun _ _ _ h => h) (by intro w1 hS; have s0 := hS.cell_some hcell nb0; have s1 := hS.cell_some dw nd0; have s2 := hS.cell_some dv nd0; clear hS; go_simp; with_reducible rfl) ?_; (simp only [Act.put, List.setIfInBounds_toArray, List.set_cons_zero, List.set_cons_succ]))
          clear hw1 hw2
          refine wpPlan_loud rfl (fun K hK => ?_)
          go_simp
          obtain ⟨S5, hin5, hstep5⟩ := (HP5.out.no (echoAdopts t s) ((Chg.refl NoF w5).drew)).net
          refine (HNT.out S5 _ hin5).mono ?_
          rintro e w6 ⟨rfl, hin6, hc6⟩
          have HP6 : Hid (WP w w6 X t n s9) := Lib.hid ⟨hstep5 w6 (fun S wr => WIn S wr t s9) hin6 hc6, HI2.out, HNN.out⟩
          refine hK _ _ (fun _ => HP6.out.rel.chg) ?_
          clear hK K hin5 hstep5 hin6 hc6 HP5 HNT
          (try simp only [Act.put, List.setIfInBounds_toArray, List.set_cons_zero, List.set_cons_succ])
          refine wpPlan_loud rfl (fun K hK => ?_)
          go_simp
          refine (error_any ke ke (by have := HER.out; omega) (by have := HER.out; omega) w6 (HG.out.new HP6.out.rel.chg)).mono ?_
          rintro e w7 ⟨rfl, hc7⟩
          have HP7 := Lib.hid (HP6.out.no hc7)
          simp only [decide_true]
          refine hK _ _ (fun _ => HP7.out.rel.chg) ?_
          clear hK K hc7 HP6
          (try simp only [Act.put, List.setIfInBounds_toArray, List.set_cons_zero, List.set_cons_succ])
          (refine wpPlan_quiet (v := ?_) rfl (fun _ _ _ h => h) (by intro w1 hS; clear hS; go_simp; with_reducible rfl) ?_; (simp only [Act.put, List.setIfInBounds_toArray, List.set_cons_zero, List.set_cons_succ]))
          clear hops
          refine wpPlan_nil ?_
          clear hcell dw dv
          go_wp2_with fail
          go_meet
          case rel => exact ⟨s9, HP7⟩
      case rest =>
      obtain ⟨s2, HP2⟩ := hcut
      clear HP
      obtain ⟨S5, us, hSX, hin5, hBX, hRD, -⟩ := HP2.out.rel.all
      obtain ⟨na, nc, pa, pc, ha, hc, wa, wcc, rfl⟩ := ef_opn hRD
      have HIN5 := Lib.hid hin5
      have HBX := Lib.hid hBX
      obtain ⟨sn, HSN⟩ : ∃ zz, Hid (s2.sent = zz) := ⟨_, Lib.hid rfl⟩
      obtain ⟨dn, HDN⟩ : ∃ zz, Hid (s2.done = zz) := ⟨_, Lib.hid rfl⟩
      obtain ⟨pl, HPL⟩ : ∃ zz, Hid (line s2.n s2.parent = zz) := ⟨_, Lib.hid rfl⟩
      have HPLN : Hid (pl.length = n) := Lib.hid (by rw [← HPL.out, line_len, HP2.out.hn])
      have HPA := Lib.hid (parents_any S5 wc.drew t s2 (hin5.keep ((Chg.refl NoF wc).drew)) HP2.out.inv.net.n5)
      unfold GotPost at HPA
      rw [show s2.parents = line s2.n s2.parent from rfl, HPL.out] at HPA
      have HDO := Lib.hid (fun wq (h : Chg NoF wc wq) => done_any S5 wq t s2 (HIN5.out.keep h))
      have HSE := Lib.hid (fun wq (h : Chg NoF wc wq) => sent_any S5 wq t s2 (HIN5.out.keep h))
      rw [HDN.out] at HDO
      rw [HSN.out] at HSE
      have HRP : Hid (Rd (fun b => S5 b ∧ b ≠ X) wc (.slice pa s2.n pc) pl) := Lib.hid (by rw [← HPL.out]; exact RdS.at (f := .l (line s2.n s2.parent)) 1 hRD rfl rfl)
      rw [HSN.out, HDN.out, HP2.out.hn] at HBX
      rw [HP2.out.hn] at HRP
      have c1 : wc.cell? ⟨X, 1, none⟩ = some (.slice pa n pc) := HBX.out.cell 1
      have c4 : wc.cell? ⟨X, 4, none⟩ = some (.int .i64 sn) := HBX.out.cell 4
      have c5 : wc.cell? ⟨X, 5, none⟩ = some (.bool dn) := HBX.out.cell 5
      have hdn : (dn != dn) = false := by simp
      have hsn : (sn != sn) = false := by simp
      clear hSX hin5 hBX hRD
      go_wp2_with fail
      refine wp_region_plan (Chg NoF wc) 20 [(0,true),(2,true),(3,true),(1,false),(4,false),(5,true),(6,true),(7,true),(9,true),(10,true),(8,false),(11,true),(12,true),(13,true),(14,true),(16,true),(17,true),(15,false),(18,true),(19,true)] mixed (by kernel_rfl) (Chg.refl _ _).drew ?_
      simp only [planOps, List.map_cons, List.map_nil, List.getElem?_cons_zero, List.getElem?_cons_succ, Option.getD_some]
      generalize hops : List.toArray _ = ops
      iterate 3 (refine wpPlan_quiet (v := ?_) rfl (fun _ _ _ h => h) (by intro w1 hS; have s0 := hS.cell_some c1 (fun h => h); clear hS; go_simp; with_reducible rfl) ?_; (simp only [Act.put, List.setIfInBounds_toArray, List.set_cons_zero, List.set_cons_succ]))
      refine wpPlan_loud rfl (fun K hK => ?_)
      go_simp
      refine HPA.out.mono ?_
      rintro e w7 ⟨vq, rfl, hown, hc7⟩
      have HC7 : Hid (Chg NoF wc w7) := Lib.hid (((Chg.refl NoF wc).drew).trans hc7)
      have HVQ : Hid (Rd (fun _ => True) w7 vq pl) := Lib.hid (Rd.ofOwns hown (fun _ _ => trivial))
      refine hK _ _ (fun _ => HC7.out) ?_
      clear hK K hown hc7 HPA
      (try simp only [Act.put, List.setIfInBounds_toArray, List.set_cons_zero, List.set_cons_succ])
      refine wpPlan_loud rfl (fun K hK => ?_)
      go_simp
      refine (ints_any (fun _ => True) _ _ _ _ w7 HVQ.out ((HRP.out.keep HC7.out (fun _ _ h => h)).mono (fun _ _ _ => trivial)) (by rw [HPLN.out]; have := HN1.out; omega) (by rw [HPLN.out]; have := HN1.out; omega)).mono ?_
      rintro e w8 ⟨rfl, kz, rfl⟩
      simp only [decide_true]
      have HC8 : Hid (Chg NoF wc (w7.drewN kz)) := Lib.hid (HC7.out.drewN kz)
      refine hK _ _ (fun _ => HC8.out) ?_
      clear hK K HVQ HRP
      (try simp only [Act.put, List.setIfInBounds_toArray, List.set_cons_zero, List.set_cons_succ])
      iterate 2 (refine wpPlan_quiet (v := ?_) rfl (fun _ _ _ h => h) (by intro w1 hS; clear hS; go_simp; with_reducible rfl) ?_; (simp only [Act.put, List.setIfInBounds_toArray, List.set_cons_zero, List.set_cons_succ]))
      iterate 3 (refine wpPlan_quietG (v := ?_) (by rw [← hops]; rfl) (fun _ _ _ h => h) (by intro w1 hS; have s0 := hS.cell_some c5 (fun h => h); clear hS; go_simp; with_reducible rfl) ?_; (simp only [Act.put, List.setIfInBounds_toArray, List.set_cons_zero, List.set_cons_succ]))
      refine wpPlan_loudG (by rw [← hops]; rfl) (fun K hK => ?_)
      go_simp
      refine (HDO.out _ HC8.out).mono ?_
      rintro e wq ⟨rfl, rfl⟩
      refine hK _ _ (fun _ => HC8.out) ?_
      clear hK K
      (try simp only [Act.put, List.setIfInBounds_toArray, List.set_cons_zero, List.set_cons_succ])
      (refine wpPlan_quietG (v := ?_) (by rw [← hops]; rfl) (fun _ _ _ h => h) (by intro w1 hS; clear hS; go_simp; with_reducible rfl) ?_; (simp only [Act.put, List.setIfInBounds_toArray, List.set_cons_zero, List.set_cons_succ]))
      iterate 2 (refine wpPlan_quiet (v := ?_) rfl (fun _ _ _ h => h) (by intro w1 hS; clear hS; go_simp; with_reducible rfl) ?_; (simp only [Act.put, List.setIfInBounds_toArray, List.set_cons_zero, List.set_cons_succ]))
      iterate 3 (refine wpPlan_quietG (v := ?_) (by rw [← hops]; rfl) (fun _ _ _ h => h) (by intro w1 hS; have s0 := hS.cell_some c4 (fun h => h); clear hS; go_simp; with_reducible rfl) ?_; (simp only [Act.put, List.setIfInBounds_toArray, List.set_cons_zero, List.set_cons_succ]))
      refine wpPlan_loudG (by rw [← hops]; rfl) (fun K hK => ?_)
      go_simp
      refine (HSE.out _ HC8.out).mono ?_
      rintro e wq ⟨rfl, rfl⟩
      refine hK _ _ (fun _ => HC8.out) ?_
      clear hK K
      (try simp only [Act.put, List.setIfInBounds_toArray, List.set_cons_zero, List.set_cons_succ])
      (refine wpPlan_quietG (v := ?_) (by rw [← hops]; rfl) (fun _ _ _ h => h) (by intro w1 hS; clear hS; go_simp; with_reducible rfl) ?_; (simp only [Act.put, List.setIfInBounds_toArray, List.set_cons_zero, List.set_cons_succ]))
      (refine wpPlan_quiet (v := ?_) rfl (fun _ _ _ h => h) (by intro w1 hS; clear hS; go_simp; with_reducible rfl) ?_; (simp only [Act.put, List.setIfInBounds_toArray, List.set_cons_zero, List.set_cons_succ]))
      clear hops
      refine wpPlan_nil ?_
      have HP8 : Hid (WP w (w7.drewN kz) X t n s2) := Lib.hid (HP2.out.no HC8.out)
      clear c1 c4 c5 hdn hsn HP2 HDO HSE HC7 HC8 HIN5 HBX
      generalize w7.drewN kz = wz at *
      go_wp2_with fail
      go_loopw [13, 14] (fun i _ wr => ∃ p : Nat, p ≤ n ∧ i = .int .i64 p ∧ Hid (WP w wr X t n s2)) (fun i _ _ => n - (intOf i).toNat)
      case atStart => exact ⟨0, Nat.zero_le _, rfl, HP8⟩
      case round =>
        clear HP8
        obtain ⟨p, hpk, rfl, HP6⟩ := hrel
        by_cases hp : p < n
        · have hp1 : (p : Int) < n := by omega
          have HPK : Hid (p + 1 ≤ n) := Lib.hid hp
          clear hp hpk
          go_wp2_with fail
          go_loopw [14] (fun i wr => ∃ z : Nat, z ≤ n ∧ i = .int .i64 z ∧ Hid (WP w wr X t n s2)) (fun i _ => n - (intOf i).toNat)
          case atStart => exact ⟨0, Nat.zero_le _, rfl, HP6⟩
          case round =>
            clear HP6
            obtain ⟨z, hzk, rfl, HP8⟩ := hrel
            by_cases hz : z < n
            · have hz1 : (z : Int) < n := by omega
              have HZK : Hid (z + 1 ≤ n) := Lib.hid hz
              have HZN : Hid (z < s2.n) := Lib.hid (by rw [HP8.out.hn]; exact hz)
              have HPS : Hid (p < s2.n) := Lib.hid (by rw [HP8.out.hn]; have := HPK.out; omega)
              obtain ⟨S8, us, hSX, hin8, hBX, hRD, -⟩ := HP8.out.rel.all
              obtain ⟨na, nc, pa, pc, ha, hc, wa, wcc, rfl⟩ := ef_opn hRD
              have HWY := Lib.hid (way_any S8 wr.drew t s2 (hin8.keep ((Chg.refl NoF wr).drew)) HP8.out.inv.net.n1 HP8.out.inv.net.n5 p z HPS.out HZN.out)
              obtain ⟨wv, HWV⟩ : ∃ zz, Hid (s2.ways p z = zz) := ⟨_, Lib.hid rfl⟩
              rw [HWV.out] at HWY
              obtain ⟨mm, HMM⟩ : ∃ mm, Hid (p * n = mm) := ⟨_, Lib.hid rfl⟩
              obtain ⟨ix, HIX⟩ : ∃ ix, Hid (mm + z = ix) := ⟨_, Lib.hid rfl⟩
              obtain ⟨nn, HNN⟩ : ∃ nn, Hid (n * n = nn) := ⟨_, Lib.hid rfl⟩
              have HN25 : Hid (nn ≤ 25) := Lib.hid (by rw [← HNN.out]; exact Nat.mul_le_mul HN1.out.2 HN1.out.2)
              have HIN : Hid (ix < nn) := Lib.hid (by rw [← HIX.out, ← HMM.out, ← HNN.out]; exact flat_lt (by have := HPK.out; omega) hz)
              have HRW : Hid (Rd (fun b => S8 b ∧ b ≠ X) wr (.slice wa (s2.n * s2.n) wcc) (flat s2.n s2.ways)) := Lib.hid (RdS.at (f := .l (flat s2.n s2.ways)) 3 hRD rfl rfl)
              obtain ⟨bW, oW, cW, eW, -, hcW⟩ := HRW.out.form (by rw [flat_len, HP8.out.hn, HNN.out]; have := HIN.out; omega)
              rw [flat_len] at eW
              simp only [Value.slice.injEq] at eW
              obtain ⟨rfl, -, rfl⟩ := eW
              have dW := hcW ix (by rw [flat_len, HP8.out.hn, HNN.out]; exact HIN.out)
              rw [show (flat s2.n s2.ways).getD ix 0 = wv by rw [← HIX.out, ← HMM.out, ← HP8.out.hn, flat_at _ HPS.out HZN.out, HWV.out]] at dW
              rw [HP8.out.hn, HNN.out] at hBX
              have c3 : wr.cell? ⟨X, 3, none⟩ = some (.slice (some ⟨bW, oW, none⟩) nn wcc) := hBX.cell 3
              have hix : (ix : Int) < nn := by have := HIN.out; omega
              have hwv : (wv != wv) = false := by simp
              have hz2 : (z : Int) < n := hz1
              have hw1 : IntKind.i64.wrap ((p : Int) * (n : Int)) = (mm : Int) := by rw [← Int.natCast_mul, HMM.out]; exact (wrap_both (by omega) (by have := HIX.out; have := HIN.out; have := HN25.out; omega)).1
              have HW2 : Hid (IntKind.i64.wrap ((mm : Int) + (z : Int)) = (ix : Int)) := Lib.hid (by rw [← Int.natCast_add, HIX.out]; exact (wrap_both (by omega) (by have := HIN.out; have := HN25.out; omega)).1)
              have hw2 := HW2.out
              clear hSX hin8 hBX hRD hcW HRW hz hzk hz2
              go_wp2_with fail
              refine wp_region_plan (Chg NoF wr) 14 [(0,true),(1,true),(2,true),(4,true),(5,true),(6,true),(7,true),(8,true),(9,true),(10,true),(11,true),(12,true),(3,false),(13,true)] mixed (by kernel_rfl) (Chg.refl _ _).drew ?_
              simp only [planOps, List.map_cons, List.map_nil, List.getElem?_cons_zero, List.getElem?_cons_succ, Option.getD_some]
              generalize hops : List.toArray _ = ops
              iterate 12 (refine wpPlan_quiet (v := ?_) rfl (fun _ _ _ h => h) (by intro w1 hS; have s0 := hS.cell_some c3 (fun h => h); have s1 := hS.cell_some dW (fun h => h); clear hS; go_simp; with_reducible rfl) ?_; (simp only [Act.put, List.setIfInBounds_toArray, List.set_cons_zero, List.set_cons_succ]))
              refine wpPlan_loud rfl (fun K hK => ?_)
              go_simp
              refine HWY.out.mono ?_
              rintro e wq ⟨rfl, rfl⟩
              refine hK _ _ (fun _ => (Chg.refl NoF wr).drew) ?_
              clear hK K HWY hw1 hw2
              (try simp only [Act.put, List.setIfInBounds_toArray, List.set_cons_zero, List.set_cons_succ])
              (refine wpPlan_quiet (v := ?_) rfl (fun _ _ _ h => h) (by intro w1 hS; clear hS; go_simp; with_reducible rfl) ?_; (simp only [Act.put, List.setIfInBounds_toArray, List.set_cons_zero, List.set_cons_succ]))
              clear hops
              refine wpPlan_nil ?_
              have HP9 : Hid (WP w wr.drew X t n s2) := Lib.hid (HP8.out.no ((Chg.refl NoF wr).drew))
              clear c3 dW hix hwv HP8
              have hn5 := HN1.out.2
              generalize wr.drew = w11 at *
              go_wp2
              go_roundw
              case rel => exact ⟨z + 1, HZK.out, by go_num, HP9⟩
              case measure => have := HZK.out; simp [intOf]; omega
            · have hz1 : ¬ (z : Int) < n := by omega
              have hn5 := HN1.out.2
              clear hz hzk
              go_wp2
              go_roundw
              case rel => first | exact ⟨p + 1, HPK.out, by go_num, HP8⟩ | ((repeat apply Exists.intro); exact ⟨⟨HPK.out, by go_num, HP8⟩, rfl⟩)
              case measure => have := HPK.out; simp [intOf]; omega
        · have hp1 : ¬ (p : Int) < n := by omega
          have HJS : Hid (j + 1 ≤ sl + 1 ∧ j + 1 ≤ 100) := Lib.hid (by have := HJJ.out; omega)
          clear hp hpk
          go_wp2
          go_roundw
          case rel => first | exact ⟨j + 1, HJS.out.1, HJS.out.2, by go_num, s2, HP6⟩ | ((repeat apply Exists.intro); exact ⟨⟨HJS.out.1, HJS.out.2, by go_num, HP6⟩, rfl⟩)
          case measure => have := HJJ.out; simp [intOf]; omega
    · have hjs : ¬ (j : Int) ≤ sl ∨ ((j : Int) ≤ sl ∧ ¬ (j : Int) < 100) := by omega
      obtain ⟨S5, hin5, -⟩ := HP.out.rel.net
      have HW1 := Lib.hid (way_out S5 wr t s hin5 HP.out.inv.net.n1 HP.out.inv.net.n5 (-1) 0 (by rw [s.in_iff]; rfl))
      have HW2 := Lib.hid (way_out S5 wr t s hin5 HP.out.inv.net.n1 HP.out.inv.net.n5 0 n (by have e1 : inB (n : Int) 0 ((s.n : Int) - 1) = false := by { unfold inB; rw [Bool.and_eq_false_iff]; right; rw [decide_eq_false_iff_not]; have := HP.out.hn; omega }; rw [s.in_iff, e1, Bool.and_false]))
      clear hin5 hlt hjsl hj100
      rcases hjs with hjs | ⟨hjs1, hjs2⟩
      all_goals
        go_wp2_with fail
        refine HW1.out.mono ?_
        rintro e wq ⟨rfl, rfl⟩
        go_wp2_with fail
        refine HW2.out.mono ?_
        rintro e wq ⟨rfl, rfl⟩
        go_wp2
        go_ret
        exact ⟨rfl, HP.out.rel.chg⟩

end Go.Proofs.YtckgkgaoioigdaaDoor
