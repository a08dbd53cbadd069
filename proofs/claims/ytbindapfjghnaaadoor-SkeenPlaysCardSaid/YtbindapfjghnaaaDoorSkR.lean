/-
  The walk of SkeenPlays: the program's net and the document's tell the same, whatever is sent, heard and fixed.
  Conditions: the steps are read as lists of integers; package errors' variable errorType holds the handle of the type 'error'.
-/
import Derived.Test.YtbindapfjghnaaaDoorSkP
import Derived.Test.YtbindapfjghnaaaDoorSkQ
import Derived.Test.YtbindapfjghnaaaDoorSkC
import Derived.Test.YtbindapfjghnaaaDoorSkD
import Derived.Test.YtbindapfjghnaaaDoorSkF
import Derived.Test.YtbindapfjghnaaaDoorPlay
import Derived.Test.YtbindapfjghnaaaDoorDoor
namespace Go.Proofs.YtbindapfjghnaaaDoor
open Go Go.RowKit

theorem skeenAdopts (t g : Nat) (s : SNet) : Adopts fun S w => SIn S w t g s where
  mono := fun h hS => h.mono hS
  adopt := fun {S F w w1} h hc hF => by
    obtain ⟨V, tag, hg, h⟩ := h
    obtain ⟨tag', h'⟩ := Mem.adopt h hc hF
    exact ⟨V, tag', hg, h'⟩

/-- The program's net, and the document's in block X. -/
structure SP (w w' : World) (X t g n : Nat) (s : SNet) : Prop where
  rel : PRel w w' X (fun S wr => SIn S wr t g s) (sf s)
  inv : SInv s
  hn : s.n = n

theorem SP.no {w w' w1 : World} {X t g n : Nat} {s : SNet} (h : SP w w' X t g n s) (hc : Chg NoF w' w1) : SP w w1 X t g n s := ⟨h.rel.no (skeenAdopts t g s) hc, h.inv, h.hn⟩

theorem sendErr_rng (s : SNet) : 0 ≤ s.sendErr ∧ s.sendErr ≤ 9 := by
  unfold SNet.sendErr
  (repeat' split) <;> omega
theorem hearErr_rng (s : SNet) (p q : Int) : 0 ≤ s.hearErr p q ∧ s.hearErr p q ≤ 9 := by
  unfold SNet.hearErr
  (repeat' split) <;> omega
theorem fixErr_rng (s : SNet) (p q : Int) : 0 ≤ s.fixErr p q ∧ s.fixErr p q ≤ 9 := by
  unfold SNet.fixErr
  (repeat' split) <;> omega

set_option maxHeartbeats 16000000 in
set_option maxRecDepth 100000 in
theorem skplays_walk (n : Int) (v : Value) (ll : List (List Int)) (w : World) (hg : As.Met w) (hr : Rd2 (fun k => k < w.heap.size) w v ll) (hlb : ll.length ≤ 9223372036854775807) :
    Calls Tryd.prog 3 #[.int .i64 n, v] w fun e w' => e = .returned (.bool true) ∧ Chg (NewB w) w w' := by
  have HR := Lib.hid hr
  have _ := hlb
  have HG := Lib.hid hg
  clear hr hg
  go_enter Tryd.func3, Tryd.ntmps3
  go_wp2_with fail
  refine (new_any n w).mono ?_
  rintro e w2 ⟨hc2, hnew⟩
  have HC2 := Lib.hid hc2
  clear hc2
  rcases hnew with ⟨hbad, rfl⟩ | ⟨k, rfl, hk1, hk5, t, g, rfl, hin⟩
  · have hb : decide (n < 1) = true ∨ (decide (n < 1) = false ∧ decide (4 < n) = true) := by
      rcases Bool.and_eq_false_iff.1 hbad with h | h
      · left; rw [decide_eq_true_eq]; have := of_decide_eq_false h; omega
      · by_cases h1 : n < 1
        · left; rw [decide_eq_true_eq]; exact h1
        · right; rw [decide_eq_true_eq, decide_eq_false_iff_not]; have := of_decide_eq_false h; omega
    clear hbad
    rcases hb with hb | ⟨hb1, hb2⟩
    all_goals
      go_wp2_with fail
      refine (error_any 1 1 (by omega) (by omega) w2 (HG.out.no HC2.out)).mono ?_
      rintro e w3 ⟨rfl, hc3⟩
      go_wp2
      go_ret
      exact ⟨rfl, (HC2.out.trans hc3).ofNo⟩
  have HIN := Lib.hid hin
  have hka : decide ((k : Int) < 1) = false := by rw [decide_eq_false_iff_not]; omega
  have hkb : decide ((4 : Int) < k) = false := by rw [decide_eq_false_iff_not]; omega
  have HK1 := Lib.hid hk1
  have HK5 := Lib.hid hk5
  clear hin
  obtain ⟨pv, cv, rfl⟩ := HR.out.val
  obtain ⟨sl, hSL⟩ : ∃ sl, Hid (ll.length = sl) := ⟨_, Lib.hid rfl⟩
  rw [hSL.out] at hlb HR ⊢
  go_wp2_with fail
  refine (newSkeen_ref (fun _ => False) k hk1 hk5 w2).mono ?_
  rintro e w3 ⟨vx, rfl, us, rfl, hrx, hc3⟩
  have HRX := Lib.hid hrx
  have HC3 := Lib.hid hc3
  clear hrx hc3 hka hkb hk1 hk5
  go_wp2_with (refine wpList_plain rfl (fun K hK => wp_storeT aggSkeen _ _ rfl w3.heap.size us [.slice none 0 0, .slice none 0 0, .slice none 0 0, .slice none 0 0] (by rfl) (by rfl) HRX.out.len (Blk.alloc w3 [.slice none 0 0, .slice none 0 0, .slice none 0 0, .slice none 0 0] 31) rfl HRX.out.one ?_); intro w4 hB4 hc4; have HB4 := Lib.hid hB4; have HC4 := Lib.hid hc4; clear hB4 hc4; refine hK _ _ ?_; clear hK)
  have HP0 : Hid (SP w w4 w3.heap.size t g k (SNet.init k)) := Lib.hid (by
    have hcn : Chg NoF w3 w4 := ((Chg.refl NoF w3).alloc (.cells #[.slice none 0 0, .slice none 0 0, .slice none 0 0, .slice none 0 0] 31)).trans2 HC4.out fun i _ hi => .inr (by have hi : i = w3.heap.size := hi; omega)
    have hz2 := HC2.out.size
    have hz3 := HC3.out.size
    have hz4 : w3.heap.size < w4.heap.size := HB4.out.lt
    refine ⟨⟨⟨Plus (fun b => b < w.heap.size) w2 w4, us, fun b hb => .inl hb, .inr ⟨hz3, hz4⟩, (skeenAdopts t g _).adopt HIN.out (HC3.out.trans hcn) (fun _ _ h => h.elim), HB4.out, ?_⟩, ((HC2.out.trans HC3.out).trans hcn).ofNo, by omega⟩, SInv.start HK1.out HK5.out, rfl⟩
    refine (HRX.out.mono (S' := fun b => Plus (fun b => b < w.heap.size) w2 w4 b ∧ b ≠ w3.heap.size) (fun b hb h => ?_)).keep hcn (fun _ _ h => h)
    rcases h with h | h
    · exact h.elim
    · exact ⟨.inr ⟨h, by omega⟩, by omega⟩)
  obtain ⟨X, HX⟩ : ∃ X, Hid (w3.heap.size = X) := ⟨_, Lib.hid rfl⟩
  rw [HX.out] at HP0 ⊢
  clear HIN HC2 HC3 HC4 HB4 HRX
  have HBACK : Hid (∀ (w' : World) (s : SNet), SP w w' X t g k s → Chg (NewB w) w w') := Lib.hid (fun _ _ h => h.rel.chg)
  go_loopw [8, 9, 10, 11, 12, 13, 14, 15, 16, 17, 18, 19, 20, 21, 22, 23, 24, 25] (fun i _ _ _ _ _ _ _ _ _ _ _ _ _ _ _ _ _ wr => ∃ j : Nat, j ≤ sl ∧ j ≤ 150 ∧ i = .int .i64 j ∧ ∃ s, Hid (SP w wr X t g k s)) (fun i _ _ _ _ _ _ _ _ _ _ _ _ _ _ _ _ _ _ => 150 - (intOf i).toNat)
  case atStart => exact ⟨0, Nat.zero_le _, Nat.zero_le _, rfl, _, HP0⟩
  case round =>
    clear HP0
    obtain ⟨j, hjsl, hj150, rfl, s, HP⟩ := hrel
    by_cases hlt : j < sl ∧ j < 150
    · obtain ⟨hlt1, hlt2⟩ := hlt
      obtain ⟨b, off, c, u, e1, hcell, hrow, hrl⟩ := HR.out.at (Chg.refl (NewB w) w) (fun b hb hn => hn hb) (j := j) (by rw [hSL.out]; exact hlt1)
      simp only [Value.slice.injEq] at e1
      obtain ⟨rfl, -, rfl⟩ := e1
      have hj1 : (j : Int) < sl := by omega
      have hj2 : (j : Int) < 150 := by omega
      have HJJ : Hid (j < sl ∧ j < 150) := Lib.hid ⟨hlt1, hlt2⟩
      have HROW := Lib.hid hrow
      obtain ⟨ua, uc, rfl⟩ := hrow.val
      have hcw := HP.out.rel.chg.cell_some hcell (fun hn => hn (World.block_lt_of_cell? w _ hcell))
      obtain ⟨ln, HLN⟩ : ∃ ln, Hid ((ll.getD j []).length = ln) := ⟨_, Lib.hid rfl⟩
      rw [HLN.out] at HROW hcw
      clear hrow hrl hcell hlt1 hlt2 hjsl hj150
      go_upto_if 65 with fail
      go_cut [10] (fun _ wx => ∃ s', Hid (SP w wx X t g k s'))
      case first =>
        by_cases hl1 : ln = 1
        · subst hl1
          obtain ⟨S1, us, hS1, hBX, hRD, hput⟩ := HP.out.rel.doc (skeenAdopts t g s)
          have HS1 := Lib.hid hS1
          have HBX := Lib.hid hBX
          have HRD := Lib.hid hRD
          have HPUT := Lib.hid hput
          have HUL : Hid (us.length = 4) := Lib.hid hRD.len
          have HER := Lib.hid (sendErr_rng s)
          have HSR := Lib.hid (fun wq (h : RdS S1 wq us (sf s)) => send_ref S1 wq us s h HP.out.inv)
          have HNT := Lib.hid (fun S5 w5 (h : SIn S5 w5 t g s) => send_any S5 w5 t g s h HP.out.inv.toSPre)
          have HI2 := Lib.hid (SInv.send HP.out.inv)
          have HNN : Hid ((s.send).n = k) := Lib.hid ((SNet.send_n s).trans HP.out.hn)
          obtain ⟨s9, HS9⟩ : ∃ s9, Hid (s.send = s9) := ⟨_, Lib.hid rfl⟩
          obtain ⟨ke, HKE⟩ : ∃ ke, Hid (s.sendErr = ke) := ⟨_, Lib.hid rfl⟩
          obtain ⟨kv, HKV⟩ : ∃ kv, Hid (s.sendVal = kv) := ⟨_, Lib.hid rfl⟩
          unfold TwoPost at HNT
          rw [HS9.out] at HSR HNT HI2 HNN
          rw [HKE.out] at HSR HNT HER
          rw [HKV.out] at HSR HNT
          have hkv : (kv != kv) = false := by simp
          clear hS1 hBX hRD hput hcw
          go_wp2_with (refine wpList_plain rfl (fun K hK => wp_loadT aggSkeen _ rfl X us (by rfl) HBX.out HUL.out ?_); refine hK _ _ ?_; clear hK)
          refine (HSR.out wr HRD.out).mono ?_
          rintro e w1 ⟨v1, rfl, us1, rfl, hr1, hc1⟩
          have HR1 := Lib.hid hr1
          have HCZ := Lib.hid hc1
          clear hr1 hc1
          go_wp2_with (first
            | (refine wpList_plain rfl (fun K hK => wp_storeT aggSkeen _ _ rfl w1.heap.size us1 [.slice none 0 0, .slice none 0 0, .slice none 0 0, .slice none 0 0] (by rfl) (by rfl) HR1.out.len (Blk.alloc w1 [.slice none 0 0, .slice none 0 0, .slice none 0 0, .slice none 0 0] 31) rfl HR1.out.one ?_); intro wz hBz hcz; have HY := Lib.hid (YR.mk1 (S1 := S1) (zs := [.slice none 0 0, .slice none 0 0, .slice none 0 0, .slice none 0 0]) HCZ.out HR1.out 31 hBz hcz); clear hBz hcz; obtain ⟨us', hcY, hBY, hRY⟩ := HY.out; have HYC := Lib.hid hcY; have HYB := Lib.hid hBY; have HYR := Lib.hid hRY; have HXC : Hid (Blk _ X us) := Lib.hid (HBX.out.keep hcY (fun h => h)); clear hcY hBY hRY HY; refine hK _ _ ?_; clear hK)
            | (refine wpList_plain rfl (fun K hK => wp_loadT aggSkeen _ rfl w1.heap.size us' (by rfl) HYB.out HYR.out.len ?_); refine hK _ _ ?_; clear hK)
            | (refine wpList_plain rfl (fun K hK => wp_storeT aggSkeen _ _ rfl X us' us (by rfl) (by rfl) HYR.out.len HXC.out HUL.out HYR.out.one ?_); intro w5 hB5 hc5; have HP5 := Lib.hid (HPUT.out _ _ _ _ HYC.out HYR.out hB5 hc5); clear hB5 hc5; refine hK _ _ ?_; clear hK))
          clear HXC HYC HYB HYR HPUT HBX HRD HSR
          obtain ⟨S5, hin5, hstep5⟩ := HP5.out.net
          refine (HNT.out S5 _ hin5).mono ?_
          rintro e w6 ⟨rfl, hin6, hc6⟩
          have HP6 : Hid (SP w w6 X t g k s9) := Lib.hid ⟨hstep5 w6 (fun S wr => SIn S wr t g s9) hin6 hc6, HI2.out, HNN.out⟩
          clear hin5 hstep5 hin6 hc6 HP5 HNT
          go_wp2_with fail
          refine (error_any ke ke (by have := HER.out; omega) (by have := HER.out; omega) w6 (HG.out.new HP6.out.rel.chg)).mono ?_
          rintro e w7 ⟨rfl, hc7⟩
          have HP7 := Lib.hid (HP6.out.no hc7)
          simp only [decide_true]
          clear hc7 HP6
          go_wp2_with fail
          go_meet
          case rel => exact ⟨s9, HP7⟩
        · have hb1 : ((ln : Int) == 1) = false := by rw [beq_eq_false_iff_ne]; omega
          go_wp2_with fail
          go_meet
          case rel => exact ⟨s, HP⟩
      case rest =>
      obtain ⟨s2, HP2⟩ := hcut
      clear HP hcw
      go_upto_if 89 with fail
      go_cut [10] (fun _ wx => ∃ s', Hid (SP w wx X t g k s'))
      case first =>
        by_cases hl1 : ln = 2
        · subst hl1
          obtain ⟨b1, o1, c1', e1', -, hl⟩ := HROW.out.form (by rw [HLN.out]; omega)
          rw [HLN.out] at hl e1'
          simp only [Value.slice.injEq] at e1'
          obtain ⟨rfl, -, rfl⟩ := e1'
          have dw := hl 0 (by omega)
          obtain ⟨x, HXX⟩ : ∃ x, Hid ((ll.getD j []).getD 0 0 = x) := ⟨_, Lib.hid rfl⟩
          rw [HXX.out, Nat.add_zero] at dw
          have dv := hl 1 (by omega)
          obtain ⟨y, HYY⟩ : ∃ y, Hid ((ll.getD j []).getD 1 0 = y) := ⟨_, Lib.hid rfl⟩
          rw [HYY.out] at dv
          have HBL : Hid (b1 < w.heap.size) := Lib.hid (World.block_lt_of_cell? w _ dw)
          have HBX1 : Hid (b1 ≠ X) := Lib.hid (fun e => HP2.out.rel.nX (by rw [← e]; exact HBL.out))
          have d0 := HP2.out.rel.chg.cell_some dw (fun hn => hn HBL.out)
          have d1 := HP2.out.rel.chg.cell_some dv (fun hn => hn HBL.out)
          obtain ⟨S1, us, hS1, hBX, hRD, hput⟩ := HP2.out.rel.doc (skeenAdopts t g s2)
          have HS1 := Lib.hid hS1
          have HBX := Lib.hid hBX
          have HRD := Lib.hid hRD
          have HPUT := Lib.hid hput
          have HUL : Hid (us.length = 4) := Lib.hid hRD.len
          have HER := Lib.hid (hearErr_rng s2 x y)
          have HSR := Lib.hid (fun wq (h : RdS S1 wq us (sf s2)) => hear_ref S1 wq us s2 h HP2.out.inv x y)
          have HNT := Lib.hid (fun S5 w5 (h : SIn S5 w5 t g s2) => hear_any S5 w5 t g s2 h HP2.out.inv.toSPre x y)
          have HI2 := Lib.hid (SInv.hear HP2.out.inv x y)
          have HNN : Hid ((s2.hear x y).n = k) := Lib.hid ((SNet.hear_n s2 x y).trans HP2.out.hn)
          obtain ⟨s9, HS9⟩ : ∃ s9, Hid (s2.hear x y = s9) := ⟨_, Lib.hid rfl⟩
          obtain ⟨ke, HKE⟩ : ∃ ke, Hid (s2.hearErr x y = ke) := ⟨_, Lib.hid rfl⟩
          obtain ⟨kv, HKV⟩ : ∃ kv, Hid (s2.hearVal x y = kv) := ⟨_, Lib.hid rfl⟩
          unfold TwoPost at HNT
          rw [HS9.out] at HSR HNT HI2 HNN
          rw [HKE.out] at HSR HNT HER
          rw [HKV.out] at HSR HNT
          have hkv : (kv != kv) = false := by simp
          clear hS1 hBX hRD hput hl
          go_upto_region 18 with fail
          go_cut [15, 16, 17] (fun y cv ce wx => ∃ Y, y = .pointer (some ⟨Y, 0, none⟩) ∧ cv = .int .i64 kv ∧ ce = .int .i64 ke ∧ Hid (YR S1 wc wx Y (sf s9)))
          case first =>
            refine wp_region_pl (Chg NoF wc) 16 (.q 0 (.q 1 (.q 2 (.q 3 (.q 4 (.q 5 (.q 6 (.b2 7 12 (.q 8 (.q 9 (.q 10 (.q 11 (.l 12 (.l 13 (.q 14 (.q 15 .nil)))))))) (.l 7 (.q 8 (.q 9 (.q 10 (.q 11 (.l 13 (.q 14 (.q 15 .nil)))))))))))))))) mixed (by kernel_rfl) (Chg.refl _ wc).drew ?_
            refine wpPl_quiet (by simp only [opAt, List.getElem?_cons_zero, List.getElem?_cons_succ, Option.getD_some]; rfl) (by rfl) (by exact fun _ _ _ h => h) (fun w1 hS => quiet_loadT aggSkeen _ rfl X us (by rfl) (HBX.out.keep hS (fun h => h)) HUL.out) ?_; (simp only [Act.put, List.setIfInBounds_toArray, List.set_cons_zero, List.set_cons_succ])
            iterate 6 (refine wpPl_quiet (v := ?_) (by simp only [opAt, List.getElem?_cons_zero, List.getElem?_cons_succ, Option.getD_some]; rfl) (by rfl) (by exact fun _ _ _ h => h) (by intro w1 hS; have s0 := hS.cell_some d0 (fun h => h); have s1 := hS.cell_some d1 (fun h => h); clear hS; go_simp; with_reducible rfl) ?_; (simp only [Act.put, List.setIfInBounds_toArray, List.set_cons_zero, List.set_cons_succ]))
            refine wpPl_b2 (by simp only [opAt, List.getElem?_cons_zero, List.getElem?_cons_succ, Option.getD_some]; rfl) (by rfl) (by simp only [opAt, List.getElem?_cons_zero, List.getElem?_cons_succ, Option.getD_some]; rfl) (by rfl) (fun K hK => ?_) (fun K hK => ?_)
            · go_simp
              refine (HSR.out _ (HRD.out.keep ((Chg.refl NoF wc).drew) (fun _ _ h => h))).mono ?_
              rintro e w1 ⟨v1, rfl, us1, rfl, hr1, hc1⟩
              have hcz1 : Chg NoF wc w1 := ((Chg.refl NoF wc).drew).trans hc1
              refine hK _ _ (fun _ => hcz1) ?_
              clear hK
              (try simp only [Act.put, List.setIfInBounds_toArray, List.set_cons_zero, List.set_cons_succ])
              iterate 4 (refine wpPl_quiet (v := ?_) (by simp only [opAt, List.getElem?_cons_zero, List.getElem?_cons_succ, Option.getD_some]; rfl) (by rfl) (by exact fun _ _ _ h => h) (by intro w1 hS; clear hS; go_simp; with_reducible rfl) ?_; (simp only [Act.put, List.setIfInBounds_toArray, List.set_cons_zero, List.set_cons_succ]))
              refine wpPl_l (by simp only [opAt, List.getElem?_cons_zero, List.getElem?_cons_succ, Option.getD_some]; rfl) (by rfl) (fun K hK => ?_)
              go_simp
              refine hK _ _ (fun _ => hcz1.alloc _) ?_
              clear hK
              (try simp only [Act.put, List.setIfInBounds_toArray, List.set_cons_zero, List.set_cons_succ])
              refine wpPl_l (by simp only [opAt, List.getElem?_cons_zero, List.getElem?_cons_succ, Option.getD_some]; rfl) (by rfl) (fun K hK => ?_)
              refine wp_storeT aggSkeen _ _ rfl w1.heap.size us1 [.slice none 0 0, .slice none 0 0, .slice none 0 0, .slice none 0 0] (by rfl) (by rfl) hr1.len (Blk.alloc w1 [.slice none 0 0, .slice none 0 0, .slice none 0 0, .slice none 0 0] 31) rfl hr1.one ?_
              intro wz hBz hcz
              have hyr := Lib.hid (YR.mk1 (S1 := S1) (zs := [.slice none 0 0, .slice none 0 0, .slice none 0 0, .slice none 0 0]) hcz1 hr1 31 hBz hcz)
              refine hK _ _ (fun _ => hyr.out.chg) ?_
              clear hK
              (try simp only [Act.put, List.setIfInBounds_toArray, List.set_cons_zero, List.set_cons_succ])
              iterate 2 (refine wpPl_quiet (v := ?_) (by simp only [opAt, List.getElem?_cons_zero, List.getElem?_cons_succ, Option.getD_some]; rfl) (by rfl) (by exact fun _ _ _ h => h) (by intro w1 hS; clear hS; go_simp; with_reducible rfl) ?_; (simp only [Act.put, List.setIfInBounds_toArray, List.set_cons_zero, List.set_cons_succ]))
              refine wpPl_nil ?_
              clear hBz hcz hcz1 hr1 hc1
              go_wp2_with fail
              go_meet
              case rel => exact ⟨w1.heap.size, rfl, rfl, rfl, hyr⟩
            · go_simp
              refine hK _ _ (fun _ => ((Chg.refl NoF wc).drew).alloc _) ?_
              clear hK
              (try simp only [Act.put, List.setIfInBounds_toArray, List.set_cons_zero, List.set_cons_succ])
              refine wpPl_l (by simp only [opAt, List.getElem?_cons_zero, List.getElem?_cons_succ, Option.getD_some]; rfl) (by rfl) (fun K hK => ?_)
              go_simp
              refine (HSR.out _ (HRD.out.keep (((Chg.refl NoF wc).drew).alloc _) (fun _ _ h => h))).mono ?_
              rintro e w1 ⟨v1, rfl, us1, rfl, hr1, hc1⟩
              have hcz1 : Chg NoF wc w1 := (((Chg.refl NoF wc).drew).alloc _).trans hc1
              refine hK _ _ (fun _ => hcz1) ?_
              clear hK
              (try simp only [Act.put, List.setIfInBounds_toArray, List.set_cons_zero, List.set_cons_succ])
              iterate 4 (refine wpPl_quiet (v := ?_) (by simp only [opAt, List.getElem?_cons_zero, List.getElem?_cons_succ, Option.getD_some]; rfl) (by rfl) (by exact fun _ _ _ h => h) (by intro w1 hS; clear hS; go_simp; with_reducible rfl) ?_; (simp only [Act.put, List.setIfInBounds_toArray, List.set_cons_zero, List.set_cons_succ]))
              refine wpPl_l (by simp only [opAt, List.getElem?_cons_zero, List.getElem?_cons_succ, Option.getD_some]; rfl) (by rfl) (fun K hK => ?_)
              refine wp_storeT aggSkeen _ _ rfl wc.heap.size us1 [.slice none 0 0, .slice none 0 0, .slice none 0 0, .slice none 0 0] (by rfl) (by rfl) hr1.len ((Blk.alloc wc.drew [.slice none 0 0, .slice none 0 0, .slice none 0 0, .slice none 0 0] 31).keep hc1 (fun h => h)) rfl hr1.one ?_
              intro wz hBz hcz
              have hyr := Lib.hid ((YR.mk2 (S1 := S1) (w := wc.drew) (Y := wc.heap.size) (zs := [.slice none 0 0, .slice none 0 0, .slice none 0 0, .slice none 0 0]) rfl HS1.out 31 hc1 hr1 hBz hcz).ofDrew)
              refine hK _ _ (fun _ => hyr.out.chg) ?_
              clear hK
              (try simp only [Act.put, List.setIfInBounds_toArray, List.set_cons_zero, List.set_cons_succ])
              iterate 2 (refine wpPl_quiet (v := ?_) (by simp only [opAt, List.getElem?_cons_zero, List.getElem?_cons_succ, Option.getD_some]; rfl) (by rfl) (by exact fun _ _ _ h => h) (by intro w1 hS; clear hS; go_simp; with_reducible rfl) ?_; (simp only [Act.put, List.setIfInBounds_toArray, List.set_cons_zero, List.set_cons_succ]))
              refine wpPl_nil ?_
              clear hBz hcz hcz1 hr1 hc1
              go_wp2_with fail
              go_meet
              case rel => exact ⟨wc.heap.size, rfl, rfl, rfl, hyr⟩
          case rest =>
          obtain ⟨Y, rfl, rfl, rfl, HY⟩ := hcut
          obtain ⟨us', hcY, hBY, hRY⟩ := HY.out
          have HYC := Lib.hid hcY
          have HYB := Lib.hid hBY
          have HYR := Lib.hid hRY
          have HXC : Hid (Blk _ X us) := Lib.hid (HBX.out.keep hcY (fun h => h))
          clear hcY hBY hRY HY HBX HRD HSR d0 d1
          go_wp2_with (first
            | (refine wpList_plain rfl (fun K hK => wp_loadT aggSkeen _ rfl Y us' (by rfl) HYB.out HYR.out.len ?_); refine hK _ _ ?_; clear hK)
            | (refine wpList_plain rfl (fun K hK => wp_storeT aggSkeen _ _ rfl X us' us (by rfl) (by rfl) HYR.out.len HXC.out HUL.out HYR.out.one ?_); intro w5 hB5 hc5; have HP5 := Lib.hid (HPUT.out _ _ _ _ HYC.out HYR.out hB5 hc5); clear hB5 hc5; refine hK _ _ ?_; clear hK))
          clear HXC HYC HYB HYR HPUT
          have d0 := HP5.out.chg.cell_some dw (fun hn => hn HBL.out)
          have d1 := HP5.out.chg.cell_some dv (fun hn => hn HBL.out)
          have nd0 : ¬ NewB w b1 := fun hn => hn HBL.out
          refine wp_region_plan (Chg (NewB w) w) 13 [(0,true),(1,true),(2,true),(3,true),(4,true),(5,true),(6,true),(7,false),(8,true),(9,true),(10,true),(11,true),(12,true)] mixed (by kernel_rfl) (HP5.out.chg.drew) ?_
          simp only [planOps, List.map_cons, List.map_nil, List.getElem?_cons_zero, List.getElem?_cons_succ, Option.getD_some]
          generalize hops : List.toArray _ = ops
          iterate 7 (refine wpPlan_quiet (v := ?_) rfl (fun _ _ _ h => h) (by intro w1 hS; have s0 := hS.cell_some dw nd0; have s1 := hS.cell_some dv nd0; clear hS; go_simp; with_reducible rfl) ?_; (simp only [Act.put, List.setIfInBounds_toArray, List.set_cons_zero, List.set_cons_succ]))
          refine wpPlan_loud rfl (fun K hK => ?_)
          go_simp
          obtain ⟨S5, hin5, hstep5⟩ := (HP5.out.no (skeenAdopts t g s2) ((Chg.refl NoF w5).drew)).net
          refine (HNT.out S5 _ hin5).mono ?_
          rintro e w6 ⟨rfl, hin6, hc6⟩
          have HP6 : Hid (SP w w6 X t g k s9) := Lib.hid ⟨hstep5 w6 (fun S wr => SIn S wr t g s9) hin6 hc6, HI2.out, HNN.out⟩
          refine hK _ _ (fun _ => HP6.out.rel.chg) ?_
          clear hK K hin5 hstep5 hin6 hc6 HP5 HNT d0 d1
          (try simp only [Act.put, List.setIfInBounds_toArray, List.set_cons_zero, List.set_cons_succ])
          iterate 5 (refine wpPlan_quiet (v := ?_) rfl (fun _ _ _ h => h) (by intro w1 hS; clear hS; go_simp; with_reducible rfl) ?_; (simp only [Act.put, List.setIfInBounds_toArray, List.set_cons_zero, List.set_cons_succ]))
          clear hops
          refine wpPlan_nil ?_
          clear dw dv nd0
          go_wp2_with fail
          refine (error_any ke ke (by have := HER.out; omega) (by have := HER.out; omega) w6 (HG.out.new HP6.out.rel.chg)).mono ?_
          rintro e w7 ⟨rfl, hc7⟩
          have HP7 := Lib.hid (HP6.out.no hc7)
          simp only [decide_true]
          clear hc7 HP6
          go_wp2_with fail
          go_meet
          case rel => exact ⟨s9, HP7⟩
        · have hb1 : ((ln : Int) == 2) = false := by rw [beq_eq_false_iff_ne]; omega
          go_wp2_with fail
          go_meet
          case rel => exact ⟨s2, HP2⟩
      case rest =>
      obtain ⟨s3, HP3⟩ := hcut
      clear HP2
      go_upto_if 125 with fail
      go_cut [10] (fun _ wx => ∃ s', Hid (SP w wx X t g k s'))
      case first =>
        by_cases hl1 : ln = 3
        · subst hl1
          obtain ⟨b1, o1, c1', e1', -, hl⟩ := HROW.out.form (by rw [HLN.out]; omega)
          rw [HLN.out] at hl e1'
          simp only [Value.slice.injEq] at e1'
          obtain ⟨rfl, -, rfl⟩ := e1'
          have dw := hl 0 (by omega)
          obtain ⟨x, HXX⟩ : ∃ x, Hid ((ll.getD j []).getD 0 0 = x) := ⟨_, Lib.hid rfl⟩
          rw [HXX.out, Nat.add_zero] at dw
          have dv := hl 1 (by omega)
          obtain ⟨y, HYY⟩ : ∃ y, Hid ((ll.getD j []).getD 1 0 = y) := ⟨_, Lib.hid rfl⟩
          rw [HYY.out] at dv
          have HBL : Hid (b1 < w.heap.size) := Lib.hid (World.block_lt_of_cell? w _ dw)
          have HBX1 : Hid (b1 ≠ X) := Lib.hid (fun e => HP3.out.rel.nX (by rw [← e]; exact HBL.out))
          have d0 := HP3.out.rel.chg.cell_some dw (fun hn => hn HBL.out)
          have d1 := HP3.out.rel.chg.cell_some dv (fun hn => hn HBL.out)
          obtain ⟨S1, us, hS1, hBX, hRD, hput⟩ := HP3.out.rel.doc (skeenAdopts t g s3)
          have HS1 := Lib.hid hS1
          have HBX := Lib.hid hBX
          have HRD := Lib.hid hRD
          have HPUT := Lib.hid hput
          have HUL : Hid (us.length = 4) := Lib.hid hRD.len
          have HER := Lib.hid (fixErr_rng s3 x y)
          have HSR := Lib.hid (fun wq (h : RdS S1 wq us (sf s3)) => fix_ref S1 wq us s3 h HP3.out.inv x y)
          have HNT := Lib.hid (fun S5 w5 (h : SIn S5 w5 t g s3) => fix_any S5 w5 t g s3 h HP3.out.inv x y)
          have HI2 := Lib.hid (SInv.fixIt HP3.out.inv x y)
          have HNN : Hid ((s3.fixIt x y).n = k) := Lib.hid ((SNet.fixIt_n s3 x y).trans HP3.out.hn)
          obtain ⟨s9, HS9⟩ : ∃ s9, Hid (s3.fixIt x y = s9) := ⟨_, Lib.hid rfl⟩
          obtain ⟨ke, HKE⟩ : ∃ ke, Hid (s3.fixErr x y = ke) := ⟨_, Lib.hid rfl⟩
          obtain ⟨kv, HKV⟩ : ∃ kv, Hid (s3.fixVal x y = kv) := ⟨_, Lib.hid rfl⟩
          unfold TwoPost at HNT
          rw [HS9.out] at HSR HNT HI2 HNN
          rw [HKE.out] at HSR HNT HER
          rw [HKV.out] at HSR HNT
          have hkv : (kv != kv) = false := by simp
          clear hS1 hBX hRD hput hl
          go_upto_region 24 with fail
          go_cut [20, 21, 22] (fun y cv ce wx => ∃ Y, y = .pointer (some ⟨Y, 0, none⟩) ∧ cv = .int .i64 kv ∧ ce = .int .i64 ke ∧ Hid (YR S1 wc wx Y (sf s9)))
          case first =>
            refine wp_region_pl (Chg NoF wc) 16 (.q 0 (.q 1 (.q 2 (.q 3 (.q 4 (.q 5 (.q 6 (.b2 7 12 (.q 8 (.q 9 (.q 10 (.q 11 (.l 12 (.l 13 (.q 14 (.q 15 .nil)))))))) (.l 7 (.q 8 (.q 9 (.q 10 (.q 11 (.l 13 (.q 14 (.q 15 .nil)))))))))))))))) mixed (by kernel_rfl) (Chg.refl _ wc).drew ?_
            refine wpPl_quiet (by simp only [opAt, List.getElem?_cons_zero, List.getElem?_cons_succ, Option.getD_some]; rfl) (by rfl) (by exact fun _ _ _ h => h) (fun w1 hS => quiet_loadT aggSkeen _ rfl X us (by rfl) (HBX.out.keep hS (fun h => h)) HUL.out) ?_; (simp only [Act.put, List.setIfInBounds_toArray, List.set_cons_zero, List.set_cons_succ])
            iterate 6 (refine wpPl_quiet (v := ?_) (by simp only [opAt, List.getElem?_cons_zero, List.getElem?_cons_succ, Option.getD_some]; rfl) (by rfl) (by exact fun _ _ _ h => h) (by intro w1 hS; have s0 := hS.cell_some d0 (fun h => h); have s1 := hS.cell_some d1 (fun h => h); clear hS; go_simp; with_reducible rfl) ?_; (simp only [Act.put, List.setIfInBounds_toArray, List.set_cons_zero, List.set_cons_succ]))
            refine wpPl_b2 (by simp only [opAt, List.getElem?_cons_zero, List.getElem?_cons_succ, Option.getD_some]; rfl) (by rfl) (by simp only [opAt, List.getElem?_cons_zero, List.getElem?_cons_succ, Option.getD_some]; rfl) (by rfl) (fun K hK => ?_) (fun K hK => ?_)
            · go_simp
              refine (HSR.out _ (HRD.out.keep ((Chg.refl NoF wc).drew) (fun _ _ h => h))).mono ?_
              rintro e w1 ⟨v1, rfl, us1, rfl, hr1, hc1⟩
              have hcz1 : Chg NoF wc w1 := ((Chg.refl NoF wc).drew).trans hc1
              refine hK _ _ (fun _ => hcz1) ?_
              clear hK
              (try simp only [Act.put, List.setIfInBounds_toArray, List.set_cons_zero, List.set_cons_succ])
              iterate 4 (refine wpPl_quiet (v := ?_) (by simp only [opAt, List.getElem?_cons_zero, List.getElem?_cons_succ, Option.getD_some]; rfl) (by rfl) (by exact fun _ _ _ h => h) (by intro w1 hS; clear hS; go_simp; with_reducible rfl) ?_; (simp only [Act.put, List.setIfInBounds_toArray, List.set_cons_zero, List.set_cons_succ]))
              refine wpPl_l (by simp only [opAt, List.getElem?_cons_zero, List.getElem?_cons_succ, Option.getD_some]; rfl) (by rfl) (fun K hK => ?_)
              go_simp
              refine hK _ _ (fun _ => hcz1.alloc _) ?_
              clear hK
              (try simp only [Act.put, List.setIfInBounds_toArray, List.set_cons_zero, List.set_cons_succ])
              refine wpPl_l (by simp only [opAt, List.getElem?_cons_zero, List.getElem?_cons_succ, Option.getD_some]; rfl) (by rfl) (fun K hK => ?_)
              refine wp_storeT aggSkeen _ _ rfl w1.heap.size us1 [.slice none 0 0, .slice none 0 0, .slice none 0 0, .slice none 0 0] (by rfl) (by rfl) hr1.len (Blk.alloc w1 [.slice none 0 0, .slice none 0 0, .slice none 0 0, .slice none 0 0] 31) rfl hr1.one ?_
              intro wz hBz hcz
              have hyr := Lib.hid (YR.mk1 (S1 := S1) (zs := [.slice none 0 0, .slice none 0 0, .slice none 0 0, .slice none 0 0]) hcz1 hr1 31 hBz hcz)
              refine hK _ _ (fun _ => hyr.out.chg) ?_
              clear hK
              (try simp only [Act.put, List.setIfInBounds_toArray, List.set_cons_zero, List.set_cons_succ])
              iterate 2 (refine wpPl_quiet (v := ?_) (by simp only [opAt, List.getElem?_cons_zero, List.getElem?_cons_succ, Option.getD_some]; rfl) (by rfl) (by exact fun _ _ _ h => h) (by intro w1 hS; clear hS; go_simp; with_reducible rfl) ?_; (simp only [Act.put, List.setIfInBounds_toArray, List.set_cons_zero, List.set_cons_succ]))
              refine wpPl_nil ?_
              clear hBz hcz hcz1 hr1 hc1
              go_wp2_with fail
              go_meet
              case rel => exact ⟨w1.heap.size, rfl, rfl, rfl, hyr⟩
            · go_simp
              refine hK _ _ (fun _ => ((Chg.refl NoF wc).drew).alloc _) ?_
              clear hK
              (try simp only [Act.put, List.setIfInBounds_toArray, List.set_cons_zero, List.set_cons_succ])
              refine wpPl_l (by simp only [opAt, List.getElem?_cons_zero, List.getElem?_cons_succ, Option.getD_some]; rfl) (by rfl) (fun K hK => ?_)
              go_simp
              refine (HSR.out _ (HRD.out.keep (((Chg.refl NoF wc).drew).alloc _) (fun _ _ h => h))).mono ?_
              rintro e w1 ⟨v1, rfl, us1, rfl, hr1, hc1⟩
              have hcz1 : Chg NoF wc w1 := (((Chg.refl NoF wc).drew).alloc _).trans hc1
              refine hK _ _ (fun _ => hcz1) ?_
              clear hK
              (try simp only [Act.put, List.setIfInBounds_toArray, List.set_cons_zero, List.set_cons_succ])
              iterate 4 (refine wpPl_quiet (v := ?_) (by simp only [opAt, List.getElem?_cons_zero, List.getElem?_cons_succ, Option.getD_some]; rfl) (by rfl) (by exact fun _ _ _ h => h) (by intro w1 hS; clear hS; go_simp; with_reducible rfl) ?_; (simp only [Act.put, List.setIfInBounds_toArray, List.set_cons_zero, List.set_cons_succ]))
              refine wpPl_l (by simp only [opAt, List.getElem?_cons_zero, List.getElem?_cons_succ, Option.getD_some]; rfl) (by rfl) (fun K hK => ?_)
              refine wp_storeT aggSkeen _ _ rfl wc.heap.size us1 [.slice none 0 0, .slice none 0 0, .slice none 0 0, .slice none 0 0] (by rfl) (by rfl) hr1.len ((Blk.alloc wc.drew [.slice none 0 0, .slice none 0 0, .slice none 0 0, .slice none 0 0] 31).keep hc1 (fun h => h)) rfl hr1.one ?_
              intro wz hBz hcz
              have hyr := Lib.hid ((YR.mk2 (S1 := S1) (w := wc.drew) (Y := wc.heap.size) (zs := [.slice none 0 0, .slice none 0 0, .slice none 0 0, .slice none 0 0]) rfl HS1.out 31 hc1 hr1 hBz hcz).ofDrew)
              refine hK _ _ (fun _ => hyr.out.chg) ?_
              clear hK
              (try simp only [Act.put, List.setIfInBounds_toArray, List.set_cons_zero, List.set_cons_succ])
              iterate 2 (refine wpPl_quiet (v := ?_) (by simp only [opAt, List.getElem?_cons_zero, List.getElem?_cons_succ, Option.getD_some]; rfl) (by rfl) (by exact fun _ _ _ h => h) (by intro w1 hS; clear hS; go_simp; with_reducible rfl) ?_; (simp only [Act.put, List.setIfInBounds_toArray, List.set_cons_zero, List.set_cons_succ]))
              refine wpPl_nil ?_
              clear hBz hcz hcz1 hr1 hc1
              go_wp2_with fail
              go_meet
              case rel => exact ⟨wc.heap.size, rfl, rfl, rfl, hyr⟩
          case rest =>
          obtain ⟨Y, rfl, rfl, rfl, HY⟩ := hcut
          obtain ⟨us', hcY, hBY, hRY⟩ := HY.out
          have HYC := Lib.hid hcY
          have HYB := Lib.hid hBY
          have HYR := Lib.hid hRY
          have HXC : Hid (Blk _ X us) := Lib.hid (HBX.out.keep hcY (fun h => h))
          clear hcY hBY hRY HY HBX HRD HSR d0 d1
          go_wp2_with (first
            | (refine wpList_plain rfl (fun K hK => wp_loadT aggSkeen _ rfl Y us' (by rfl) HYB.out HYR.out.len ?_); refine hK _ _ ?_; clear hK)
            | (refine wpList_plain rfl (fun K hK => wp_storeT aggSkeen _ _ rfl X us' us (by rfl) (by rfl) HYR.out.len HXC.out HUL.out HYR.out.one ?_); intro w5 hB5 hc5; have HP5 := Lib.hid (HPUT.out _ _ _ _ HYC.out HYR.out hB5 hc5); clear hB5 hc5; refine hK _ _ ?_; clear hK))
          clear HXC HYC HYB HYR HPUT
          have d0 := HP5.out.chg.cell_some dw (fun hn => hn HBL.out)
          have d1 := HP5.out.chg.cell_some dv (fun hn => hn HBL.out)
          have nd0 : ¬ NewB w b1 := fun hn => hn HBL.out
          refine wp_region_plan (Chg (NewB w) w) 13 [(0,true),(1,true),(2,true),(3,true),(4,true),(5,true),(6,true),(7,false),(8,true),(9,true),(10,true),(11,true),(12,true)] mixed (by kernel_rfl) (HP5.out.chg.drew) ?_
          simp only [planOps, List.map_cons, List.map_nil, List.getElem?_cons_zero, List.getElem?_cons_succ, Option.getD_some]
          generalize hops : List.toArray _ = ops
          iterate 7 (refine wpPlan_quiet (v := ?_) rfl (fun _ _ _ h => h) (by intro w1 hS; have s0 := hS.cell_some dw nd0; have s1 := hS.cell_some dv nd0; clear hS; go_simp; with_reducible rfl) ?_; (simp only [Act.put, List.setIfInBounds_toArray, List.set_cons_zero, List.set_cons_succ]))
          refine wpPlan_loud rfl (fun K hK => ?_)
          go_simp
          obtain ⟨S5, hin5, hstep5⟩ := (HP5.out.no (skeenAdopts t g s3) ((Chg.refl NoF w5).drew)).net
          refine (HNT.out S5 _ hin5).mono ?_
          rintro e w6 ⟨rfl, hin6, hc6⟩
          have HP6 : Hid (SP w w6 X t g k s9) := Lib.hid ⟨hstep5 w6 (fun S wr => SIn S wr t g s9) hin6 hc6, HI2.out, HNN.out⟩
          refine hK _ _ (fun _ => HP6.out.rel.chg) ?_
          clear hK K hin5 hstep5 hin6 hc6 HP5 HNT d0 d1
          (try simp only [Act.put, List.setIfInBounds_toArray, List.set_cons_zero, List.set_cons_succ])
          iterate 5 (refine wpPlan_quiet (v := ?_) rfl (fun _ _ _ h => h) (by intro w1 hS; clear hS; go_simp; with_reducible rfl) ?_; (simp only [Act.put, List.setIfInBounds_toArray, List.set_cons_zero, List.set_cons_succ]))
          clear hops
          refine wpPlan_nil ?_
          clear dw dv nd0
          go_wp2_with fail
          refine (error_any ke ke (by have := HER.out; omega) (by have := HER.out; omega) w6 (HG.out.new HP6.out.rel.chg)).mono ?_
          rintro e w7 ⟨rfl, hc7⟩
          have HP7 := Lib.hid (HP6.out.no hc7)
          simp only [decide_true]
          clear hc7 HP6
          go_wp2_with fail
          go_meet
          case rel => exact ⟨s9, HP7⟩
        · have hb1 : ((ln : Int) == 3) = false := by rw [beq_eq_false_iff_ne]; omega
          go_wp2_with fail
          go_meet
          case rel => exact ⟨s3, HP3⟩
      case rest =>
      obtain ⟨s4, HP4⟩ := hcut
      clear HP3
      go_wp2_with fail
      go_loopw [25] (fun i wr => ∃ p : Nat, p ≤ k ∧ i = .int .i64 p ∧ Hid (SP w wr X t g k s4)) (fun i _ => k - (intOf i).toNat)
      case atStart => exact ⟨0, Nat.zero_le _, rfl, HP4⟩
      case round =>
        clear HP4
        obtain ⟨p, hpk, rfl, HP6⟩ := hrel
        by_cases hp : p < k
        · have hp1 : (p : Int) < k := by omega
          have HPK : Hid (p + 1 ≤ k) := Lib.hid hp
          have HPS : Hid (p < s4.n) := Lib.hid (by rw [HP6.out.hn]; exact hp)
          obtain ⟨S6, us, hSX, hin6, hBX, hRD, -⟩ := HP6.out.rel.all
          obtain ⟨ka, kc, ta, tc, fa, fc, ga, gc, rfl⟩ := sf_opn hRD
          have HGT := Lib.hid (got_any S6 wr.drew t g s4 (hin6.keep ((Chg.refl NoF wr).drew)) HP6.out.inv.toSPre p)
          rw [s4.gotOf_at HPS.out] at HGT
          unfold GotPost at HGT
          have q3 : wr.cell? ⟨X, 3, none⟩ = some (.slice ga s4.n gc) := hBX.cell 3
          have HWR : Rd2 (fun b => S6 b ∧ b ≠ X) wr (.slice ga s4.n gc) s4.gL := RdS.at (f := .r s4.gL) 3 hRD rfl rfl
          obtain ⟨bG, oG, cG, u, ev, dr, hru, hrl⟩ := HWR.at (Chg.refl NoF wr) (fun _ _ h => h) (j := p) (by rw [s4.gL_len]; exact HPS.out)
          rw [s4.gL_at HPS.out] at hru hrl
          rw [s4.gL_len] at ev
          simp only [Value.slice.injEq] at ev
          obtain ⟨rfl, -, rfl⟩ := ev
          rw [HP6.out.hn] at q3
          have HRU := Lib.hid hru
          have HRL := Lib.hid hrl
          obtain ⟨ua', uc', rfl⟩ := hru.val
          obtain ⟨gl, HGL⟩ : ∃ gl, Hid ((s4.got p).length = gl) := ⟨_, Lib.hid rfl⟩
          rw [HGL.out] at dr HRU HGT
          clear hSX hin6 hBX hRD hru hrl HWR hp hpk
          go_wp2_with fail
          refine wp_region_plan (Chg NoF wr) 10 [(0,true),(1,true),(3,true),(4,true),(5,true),(6,true),(7,true),(2,false),(8,false),(9,true)] mixed (by kernel_rfl) (Chg.refl _ _).drew ?_
          simp only [planOps, List.map_cons, List.map_nil, List.getElem?_cons_zero, List.getElem?_cons_succ, Option.getD_some]
          generalize hops : List.toArray _ = ops
          iterate 7 (refine wpPlan_quiet (v := ?_) rfl (fun _ _ _ h => h) (by intro w1 hS; have s0 := hS.cell_some q3 (fun h => h); have s1 := hS.cell_some dr (fun h => h); clear hS; go_simp; with_reducible rfl) ?_; (simp only [Act.put, List.setIfInBounds_toArray, List.set_cons_zero, List.set_cons_succ]))
          refine wpPlan_loud rfl (fun K hK => ?_)
          go_simp
          refine HGT.out.mono ?_
          rintro e w9 ⟨vg, rfl, hrd, hc9⟩
          have HC9 : Hid (Chg NoF wr w9) := Lib.hid (((Chg.refl NoF wr).drew).trans hc9)
          have HGV : Hid (Rd (fun _ => True) w9 vg (s4.got p)) := Lib.hid (Rd.ofOwns hrd (fun _ _ => trivial))
          refine hK _ _ (fun _ => HC9.out) ?_
          clear hK K hrd hc9 HGT
          (try simp only [Act.put, List.setIfInBounds_toArray, List.set_cons_zero, List.set_cons_succ])
          refine wpPlan_loud rfl (fun K hK => ?_)
          go_simp
          refine (ints_any (fun _ => True) _ _ _ _ w9 HGV.out ((HRU.out.keep HC9.out (fun _ _ h => h)).mono (fun _ _ _ => trivial)) HRL.out HRL.out).mono ?_
          rintro e w10 ⟨rfl, kz, rfl⟩
          simp only [decide_true]
          refine hK _ _ (fun _ => HC9.out.drewN kz) ?_
          clear hK K
          (try simp only [Act.put, List.setIfInBounds_toArray, List.set_cons_zero, List.set_cons_succ])
          (refine wpPlan_quiet (v := ?_) rfl (fun _ _ _ h => h) (by intro w1 hS; clear hS; go_simp; with_reducible rfl) ?_; (simp only [Act.put, List.setIfInBounds_toArray, List.set_cons_zero, List.set_cons_succ]))
          clear hops
          refine wpPlan_nil ?_
          have HP9 : Hid (SP w (w9.drewN kz) X t g k s4) := Lib.hid (HP6.out.no (HC9.out.drewN kz))
          clear q3 dr HP6
          have hk5 := HK5.out
          generalize w9.drewN kz = w11 at *
          go_wp2
          go_roundw
          case rel => first | exact ⟨p + 1, HPK.out, by go_num, HP9⟩ | ((repeat apply Exists.intro); exact ⟨⟨HPK.out, by go_num, HP9⟩, rfl⟩)
          case measure => have := HPK.out; simp [intOf]; omega
        · have hp1 : ¬ (p : Int) < k := by omega
          clear hp hpk
          go_wp2
          go_roundw
          case rel => first | exact ⟨j + 1, HJJ.out.1, HJJ.out.2, by go_num, s4, HP6⟩ | ((repeat apply Exists.intro); exact ⟨⟨HJJ.out.1, HJJ.out.2, by go_num, HP6⟩, rfl⟩)
          case measure => have := HJJ.out; simp [intOf]; omega
    · have hjs : ¬ (j : Int) < sl ∨ ((j : Int) < sl ∧ ¬ (j : Int) < 150) := by omega
      have HAFTER : Hid (SP w wr X t g k s) := HP
      clear hlt hjsl hj150 HP
      have hj150 : ¬ ((j : Int) < sl ∧ (j : Int) < 150) := by omega
      rcases hjs with hjs | ⟨hjs1, hjs2⟩
      all_goals clear hj150
      case' inl =>
        go_upto_region 34 with fail
      case' inr =>
        go_upto_region 34 with fail
      all_goals
        obtain ⟨m, HM⟩ : ∃ m, Hid (s.m = m) := ⟨_, Lib.hid rfl⟩
        have HM20 : Hid (m ≤ 20) := Lib.hid (by rw [← HM.out]; exact HAFTER.out.inv.m20)
        go_wp2_with fail
        go_loopw [26, 27, 28, 29] (fun i _ _ _ wr => ∃ z : Nat, z ≤ m ∧ i = .int .i64 z ∧ Hid (SP w wr X t g k s)) (fun i _ _ _ _ => m - (intOf i).toNat)
        case atStart => exact ⟨0, Nat.zero_le _, rfl, HAFTER⟩
        case round =>
          clear HAFTER
          obtain ⟨z, hzm, rfl, HP5⟩ := hrel
          obtain ⟨S5, us, hSX, hin5, hBX, hRD, -⟩ := HP5.out.rel.all
          obtain ⟨ka, kc, ta, tc, fa, fc, ga, gc, rfl⟩ := sf_opn hRD
          have q1 : wr.cell? ⟨X, 1, none⟩ = some (.slice ta s.m tc) := hBX.cell 1
          rw [HM.out] at q1
          clear hSX hin5 hBX hRD
          by_cases hz : z < m
          · have hz1 : (z : Int) < m := by omega
            have HZM : Hid (z + 1 ≤ m) := Lib.hid hz
            have HZS : Hid (z < s.m) := Lib.hid (by rw [HM.out]; exact hz)
            clear hz hzm
            go_wp2_with fail
            clear q1
            go_loopw [27, 28, 29] (fun i _ _ wr => ∃ p : Nat, p ≤ k ∧ i = .int .i64 p ∧ Hid (SP w wr X t g k s)) (fun i _ _ _ => k - (intOf i).toNat)
            case atStart => exact ⟨0, Nat.zero_le _, rfl, HP5⟩
            case round =>
              clear HP5
              obtain ⟨p, hpk, rfl, HP6⟩ := hrel
              by_cases hp : p < k
              · have hp1 : (p : Int) < k := by omega
                have HPK : Hid (p + 1 ≤ k) := Lib.hid hp
                have HPS : Hid (p < s.n) := Lib.hid (by rw [HP6.out.hn]; exact hp)
                obtain ⟨S6, us, hSX, hin6, hBX, hRD, -⟩ := HP6.out.rel.all
                obtain ⟨ka, kc, ta, tc, fa, fc, ga, gc, rfl⟩ := sf_opn hRD
                have HTI := Lib.hid (time_any S6 wr t g s hin6 HP6.out.inv.toSPre p z)
                have his : s.is p z = true := (s.is_iff p z).2 ⟨p, z, rfl, rfl, HPS.out, HZS.out⟩
                rw [show s.timeOf p z = s.tm z p by unfold SNet.timeOf; rw [if_pos his, Int.toNat_natCast, Int.toNat_natCast], show s.fixedAt p z = s.fix z p by unfold SNet.fixedAt; rw [if_pos his, Int.toNat_natCast, Int.toNat_natCast]] at HTI
                have HRT : Hid (Rd2 (fun b => S6 b ∧ b ≠ X) wr (.slice ta s.m tc) s.tL) := Lib.hid (RdS.at (f := .r s.tL) 1 hRD rfl rfl)
                have HRF : Hid (Rd (fun b => S6 b ∧ b ≠ X) wr (.slice fa s.m fc) s.fL) := Lib.hid (RdS.at (f := .l s.fL) 2 hRD rfl rfl)
                obtain ⟨bT, oT, cT, uT, eT, dT, hruT, hrlT⟩ := HRT.out.at (Chg.refl NoF wr) (fun _ _ h => h) (j := z) (by rw [s.tL_len]; exact HZS.out)
                rw [s.tL_at HZS.out] at hruT
                rw [s.tL_len] at eT
                simp only [Value.slice.injEq] at eT
                obtain ⟨rfl, -, rfl⟩ := eT
                obtain ⟨bU, oU, cU, rfl, -, hcU⟩ := hruT.form (by rw [line_len]; have := HPS.out; omega)
                rw [line_len, HP6.out.hn] at dT
                have dU := hcU p (by rw [line_len]; exact HPS.out)
                rw [line_at _ HPS.out] at dU
                obtain ⟨bF, oF, cF, eF, -, hcF⟩ := HRF.out.form (by rw [s.fL_len]; have := HZS.out; omega)
                rw [s.fL_len] at eF
                simp only [Value.slice.injEq] at eF
                obtain ⟨rfl, -, rfl⟩ := eF
                have dF := hcF z (by rw [s.fL_len]; exact HZS.out)
                rw [s.fL_at HZS.out] at dF
                obtain ⟨tk, HTK⟩ : ∃ x, Hid (s.tm z p = x) := ⟨_, Lib.hid rfl⟩
                obtain ⟨fb, HFB⟩ : ∃ x, Hid (s.fix z p = x) := ⟨_, Lib.hid rfl⟩
                obtain ⟨fx, HFX⟩ : ∃ x, Hid (setB (s.fix z) s.n = x) := ⟨_, Lib.hid rfl⟩
                rw [HTK.out, HFB.out] at HTI
                rw [HTK.out] at dU
                have HF16 : Hid (fx < 16) := Lib.hid (by rw [← HFX.out]; exact Nat.lt_of_lt_of_le (setB_lt _ _) (show 2 ^ s.n ≤ 2 ^ 4 from Nat.pow_le_pow_right (by omega) HP6.out.inv.n4))
                rw [HFX.out] at dF
                have HBIT := Lib.hid (fun wq => bit_any fx p (by have := HF16.out; omega) (by have := HPK.out; have := HK5.out; omega) wq)
                rw [show bitB fx p = fb by rw [← HFX.out, ← HFB.out]; exact bit_setB _ _ _ HPS.out] at HBIT
                rw [HP6.out.hn, HM.out] at hBX
                have HBX := Lib.hid hBX
                have htk : (tk != tk) = false := by simp
                have hfb : (fb != fb) = false := by simp
                clear hSX hin6 hBX hRD hruT hrlT hcU hcF his hp hpk HRT HRF
                go_wp2_with fail
                refine HTI.out.mono ?_
                rintro e w7 ⟨rfl, hc7⟩
                have HP7 := Lib.hid (HP6.out.no hc7)
                have e1 := (HBX.out.keep hc7 (fun h => h)).cell 1
                have e2 := (HBX.out.keep hc7 (fun h => h)).cell 2
                have c1 : w7.cell? ⟨X, 1, none⟩ = some (.slice (some ⟨bT, oT, none⟩) m tc) := e1
                have c2 : w7.cell? ⟨X, 2, none⟩ = some (.slice (some ⟨bF, oF, none⟩) m fc) := e2
                have dT7 := hc7.cell_some dT (fun h => h)
                have dU7 := hc7.cell_some dU (fun h => h)
                have dF7 := hc7.cell_some dF (fun h => h)
                clear e1 e2 dT dU dF hc7 HTI HBX HP6
                go_wp2_with fail
                refine (HBIT.out w7).mono ?_
                rintro e w8 ⟨rfl, rfl⟩
                clear c1 c2 dT7 dU7 dF7 HBIT
                have hk5 := HK5.out
                go_wp2
                go_roundw
                case rel => first | exact ⟨p + 1, HPK.out, by go_num, HP7⟩ | ((repeat apply Exists.intro); exact ⟨⟨HPK.out, by go_num, HP7⟩, rfl⟩)
                case measure => have := HPK.out; simp [intOf]; omega
              · have hp1 : ¬ (p : Int) < k := by omega
                clear hp hpk
                have hm20 := HM20.out
                go_wp2
                go_roundw
                case rel => first | exact ⟨z + 1, HZM.out, by go_num, HP6⟩ | ((repeat apply Exists.intro); exact ⟨⟨HZM.out, by go_num, HP6⟩, rfl⟩)
                case measure => have := HZM.out; simp [intOf]; omega
          · obtain rfl : m = z := by omega
            have hz1 : ¬ (m : Int) < m := by omega
            clear hz hzm
            obtain ⟨S6, hin6, hstep6⟩ := HP5.out.rel.net
            have HTI := Lib.hid (time_any S6 wr t g s hin6 HP5.out.inv.toSPre 0 m)
            have hnot : ¬ s.is 0 m = true := fun h => by obtain ⟨a, b, h1, h2, h3, h4⟩ := (s.is_iff 0 m).1 h; have := HM.out; omega
            rw [show s.timeOf 0 m = 0 by unfold SNet.timeOf; rw [if_neg hnot], show s.fixedAt 0 m = false by unfold SNet.fixedAt; rw [if_neg hnot]] at HTI
            have HGT := Lib.hid (fun w7 (h : Chg NoF wr w7) => got_any S6 w7 t g s (hin6.keep h) HP5.out.inv.toSPre k)
            rw [show s.gotOf k = [] by unfold SNet.gotOf; rw [if_neg (by have := HP5.out.hn; omega)]] at HGT
            unfold GotPost at HGT
            clear hin6 hstep6 hnot
            go_wp2_with fail
            refine HTI.out.mono ?_
            rintro e w7 ⟨rfl, hc7⟩
            have HC7 := Lib.hid hc7
            clear hc7 q1 HTI
            go_wp2_with fail
            refine (HGT.out w7 HC7.out).mono ?_
            rintro e w8 ⟨vg, rfl, hown, hc8⟩
            obtain ⟨va, vc, rfl⟩ := owns_val hown
            have HC8 := Lib.hid hc8
            clear hown hc8 HGT
            go_wp2
            go_ret
            exact ⟨rfl, (HP5.out.rel.chg.trans HC7.out.ofNo).trans HC8.out.ofNo⟩

end Go.Proofs.YtbindapfjghnaaaDoor
