/-
  The walk of TokenPlays: the program's net and the document's tell the same, whatever is asked, left, stepped and brought.
  Conditions: the steps are read as lists of integers; package errors' variable errorType holds the handle of the type 'error'.
-/
import Derived.Test.YthblnljjhbdejaaDoorToT
import Derived.Test.YthblnljjhbdejaaDoorToQ
import Derived.Test.YthblnljjhbdejaaDoorToO
import Derived.Test.YthblnljjhbdejaaDoorPlay
import Derived.Test.YthblnljjhbdejaaDoorDoor
namespace Go.Proofs.YthblnljjhbdejaaDoor
open Go Go.RowKit

theorem tokenAdopts (t g : Nat) (s : TNet) : Adopts fun S w => TIn S w t g s where
  mono := fun h hS => h.mono hS
  adopt := fun {S F w w1} h hc hF => by
    obtain ⟨V, tag, hg, h⟩ := h
    obtain ⟨tag', h'⟩ := Mem.adopt h hc hF
    exact ⟨V, tag', hg, h'⟩

/-- The program's net, and the document's in block X; b: at most so many messages are on the ways. -/
structure TP (b : Int) (w w' : World) (X t g n : Nat) (s : TNet) : Prop where
  rel : PRel w w' X (fun S wr => TIn S wr t g s) (tf s)
  inv : TInv s
  hn : s.n = n
  ms : msgs s ≤ b
  b9 : b ≤ 900

theorem TP.no {b : Int} {w w' w1 : World} {X t g n : Nat} {s : TNet} (h : TP b w w' X t g n s) (hc : Chg NoF w' w1) : TP b w w1 X t g n s := ⟨h.rel.no (tokenAdopts t g s) hc, h.inv, h.hn, h.ms, h.b9⟩
theorem TP.up {b b' : Int} {w w' : World} {X t g n : Nat} {s : TNet} (h : TP b w w' X t g n s) (h1 : b ≤ b') (h2 : b' ≤ 900) : TP b' w w' X t g n s := ⟨h.rel, h.inv, h.hn, by have := h.ms; omega, h2⟩
theorem TP.good {b : Int} {w w' : World} {X t g n : Nat} {s : TNet} (h : TP b w w' X t g n s) : TGood s := ⟨h.inv, h.inv.sane (by have := h.ms; have := h.b9; omega)⟩

theorem ask_ms {s : TNet} (h : TInv s) (p : Int) : msgs (s.ask p) ≤ msgs s + 3 := by
  obtain ⟨_, _, h1, h2⟩ := h.askD p
  have := h.n4
  by_cases e : s.askErr p = 0
  · have := (h1 e).2
    split at this <;> omega
  · rw [h2 e]; omega
theorem leave_ms {s : TNet} (h : TInv s) (p : Int) : msgs (s.leave p) ≤ msgs s := by
  have := (h.leaveD p).2.2.1; omega
theorem step_ms {s : TNet} (h : TInv s) (p q : Int) : msgs (s.step p q) ≤ msgs s := by
  obtain ⟨_, _, h1, h2⟩ := h.stepD p q
  by_cases e : s.stepErr p q = 0
  · have := (h1 e).1; omega
  · rw [h2 e]; exact Int.le_refl _
theorem bring_ms {s : TNet} (h : TInv s) : msgs s.bring ≤ msgs s := by
  have := h.bringD.2.2.1; omega

theorem askErr_rng (s : TNet) (p : Int) : 0 ≤ s.askErr p ∧ s.askErr p ≤ 9 := by
  unfold TNet.askErr
  (repeat' split) <;> omega
theorem leaveErr_rng (s : TNet) (p : Int) : 0 ≤ s.leaveErr p ∧ s.leaveErr p ≤ 9 := by
  unfold TNet.leaveErr
  (repeat' split) <;> omega
theorem stepErr_rng (s : TNet) (p q : Int) : 0 ≤ s.stepErr p q ∧ s.stepErr p q ≤ 9 := by
  unfold TNet.stepErr
  (repeat' split) <;> omega
theorem bringErr_rng (s : TNet) : 0 ≤ s.bringErr ∧ s.bringErr ≤ 9 := by
  unfold TNet.bringErr
  (repeat' split) <;> omega

theorem msgs_init (n : Nat) : msgs (TNet.init n) = 0 := by
  unfold msgs
  have : sum2 (TNet.init n).n (fun a b => len ((TNet.init n).ways a b)) = sum2 (TNet.init n).n (fun _ _ => 0) := sum2_congr fun _ _ _ _ => rfl
  rw [this]
  unfold sum2
  have h0 : ∀ m, sumN m (fun _ => (0 : Int)) = 0 := fun m => by rw [sum_const]; omega
  rw [show (fun p => sumN (TNet.init n).n ((fun _ _ => (0 : Int)) p)) = fun _ => (0 : Int) from funext fun _ => h0 _]
  exact h0 _

set_option maxHeartbeats 16000000 in
set_option maxRecDepth 100000 in
theorem tplays_walk (n : Int) (v : Value) (ll : List (List Int)) (w : World) (hg : As.Met w) (hr : Rd2 (fun k => k < w.heap.size) w v ll) (hlb : ll.length ≤ 9223372036854775807) :
    Calls Tryd.prog 3 #[.int .i64 n, v] w fun e w' => e = .returned (.bool true) ∧ Chg (NewB w) w w' := by
  have HR := Lib.hid hr
  have _ := hlb
  have HG := Lib.hid hg
  clear hr hg
  go_enter Tryd.func3, Tryd.ntmps3
  go_wp2_with fail
  refine (new_any n w).mono ?_
  rintro e w2 ⟨hc2, hnew⟩
  have HC2 := Lib.hid hc2
  clear hc2
  rcases hnew with ⟨hbad, rfl⟩ | ⟨k, rfl, hk1, hk5, t, g, rfl, hin⟩
  · have hb : decide (n < 1) = true ∨ (decide (n < 1) = false ∧ decide (4 < n) = true) := by
      rcases Bool.and_eq_false_iff.1 hbad with h | h
      · left; rw [decide_eq_true_eq]; have := of_decide_eq_false h; omega
      · by_cases h1 : n < 1
        · left; rw [decide_eq_true_eq]; exact h1
        · right; rw [decide_eq_true_eq, decide_eq_false_iff_not]; have := of_decide_eq_false h; omega
    clear hbad
    rcases hb with hb | ⟨hb1, hb2⟩
    all_goals
      go_wp2_with fail
      refine (error_any 1 1 (by omega) (by omega) w2 (HG.out.no HC2.out)).mono ?_
      rintro e w3 ⟨rfl, hc3⟩
      go_wp2
      go_ret
      exact ⟨rfl, (HC2.out.trans hc3).ofNo⟩
  have HIN := Lib.hid hin
  have hka : decide ((k : Int) < 1) = false := by rw [decide_eq_false_iff_not]; omega
  have hkb : decide ((4 : Int) < k) = false := by rw [decide_eq_false_iff_not]; omega
  have HK1 := Lib.hid hk1
  have HK5 := Lib.hid hk5
  clear hin
  obtain ⟨pv, cv, rfl⟩ := HR.out.val
  obtain ⟨sl, hSL⟩ : ∃ sl, Hid (ll.length = sl) := ⟨_, Lib.hid rfl⟩
  rw [hSL.out] at hlb HR ⊢
  go_wp2_with fail
  refine (newToken_ref (fun _ => False) k hk1 hk5 w2).mono ?_
  rintro e w3 ⟨vx, rfl, us, rfl, hrx, hc3⟩
  have HRX := Lib.hid hrx
  have HC3 := Lib.hid hc3
  clear hrx hc3 hka hkb hk1 hk5
  go_wp2_with (refine wpList_plain rfl (fun K hK => wp_storeT aggToken _ _ rfl w3.heap.size us [.int .i64 0, .slice none 0 0, .slice none 0 0, .int .i64 0, .int .i64 0, .slice none 0 0, .slice none 0 0, .slice none 0 0] (by rfl) (by rfl) HRX.out.len (Blk.alloc w3 [.int .i64 0, .slice none 0 0, .slice none 0 0, .int .i64 0, .int .i64 0, .slice none 0 0, .slice none 0 0, .slice none 0 0] 31) rfl HRX.out.one ?_); intro w4 hB4 hc4; have HB4 := Lib.hid hB4; have HC4 := Lib.hid hc4; clear hB4 hc4; refine hK _ _ ?_; clear hK)
  have HP0 : Hid (TP 0 w w4 w3.heap.size t g k (TNet.init k)) := Lib.hid (by
    have hcn : Chg NoF w3 w4 := ((Chg.refl NoF w3).alloc (.cells #[.int .i64 0, .slice none 0 0, .slice none 0 0, .int .i64 0, .int .i64 0, .slice none 0 0, .slice none 0 0, .slice none 0 0] 31)).trans2 HC4.out fun i _ hi => .inr (by have hi : i = w3.heap.size := hi; omega)
    have hz2 := HC2.out.size
    have hz3 := HC3.out.size
    have hz4 : w3.heap.size < w4.heap.size := HB4.out.lt
    refine ⟨⟨⟨Plus (fun b => b < w.heap.size) w2 w4, us, fun b hb => .inl hb, .inr ⟨hz3, hz4⟩, (tokenAdopts t g _).adopt HIN.out (HC3.out.trans hcn) (fun _ _ h => h.elim), HB4.out, ?_⟩, ((HC2.out.trans HC3.out).trans hcn).ofNo, by omega⟩, TInv.start HK1.out HK5.out, rfl, by rw [msgs_init]; exact Int.le_refl _, by decide⟩
    refine (HRX.out.mono (S' := fun b => Plus (fun b => b < w.heap.size) w2 w4 b ∧ b ≠ w3.heap.size) (fun b hb h => ?_)).keep hcn (fun _ _ h => h)
    rcases h with h | h
    · exact h.elim
    · exact ⟨.inr ⟨h, by omega⟩, by omega⟩)
  obtain ⟨X, HX⟩ : ∃ X, Hid (w3.heap.size = X) := ⟨_, Lib.hid rfl⟩
  rw [HX.out] at HP0 ⊢
  clear HIN HC2 HC3 HC4 HB4 HRX
  go_loopw [8, 9, 10, 11, 12, 13, 14, 15] (fun i _ _ _ _ _ _ _ wr => ∃ j : Nat, j ≤ sl ∧ j ≤ 200 ∧ i = .int .i64 j ∧ ∃ s, Hid (TP (3 * (j : Int)) w wr X t g k s)) (fun i _ _ _ _ _ _ _ _ => 200 - (intOf i).toNat)
  case atStart => exact ⟨0, Nat.zero_le _, Nat.zero_le _, rfl, _, HP0⟩
  case round =>
    clear HP0
    obtain ⟨j, hjsl, hj150, rfl, s, HP⟩ := hrel
    by_cases hlt : j < sl ∧ j < 200
    · obtain ⟨hlt1, hlt2⟩ := hlt
      obtain ⟨b, off, c, u, e1, hcell, hrow, hrl⟩ := HR.out.at (Chg.refl (NewB w) w) (fun b hb hn => hn hb) (j := j) (by rw [hSL.out]; exact hlt1)
      simp only [Value.slice.injEq] at e1
      obtain ⟨rfl, -, rfl⟩ := e1
      have hj1 : (j : Int) < sl := by omega
      have hj2 : (j : Int) < 200 := by omega
      have HJJ : Hid (j < sl ∧ j < 200) := Lib.hid ⟨hlt1, hlt2⟩
      have HROW := Lib.hid hrow
      obtain ⟨ua, uc, rfl⟩ := hrow.val
      have hcw := HP.out.rel.chg.cell_some hcell (fun hn => hn (World.block_lt_of_cell? w _ hcell))
      obtain ⟨ln, HLN⟩ : ∃ ln, Hid ((ll.getD j []).length = ln) := ⟨_, Lib.hid rfl⟩
      obtain ⟨y1, HY1⟩ : ∃ y, Hid ((ll.getD j []).getD 1 0 = y) := ⟨_, Lib.hid rfl⟩
      rw [HLN.out] at HROW hcw
      have HUP : Hid ((3 * (j : Int)) ≤ (3 * (j : Int) + 3) ∧ (3 * (j : Int) + 3) ≤ 900) := Lib.hid (by omega)
      clear hrow hrl hcell hlt1 hlt2 hjsl hj150
      obtain ⟨B55, HB55⟩ : ∃ zz, Hid (decide (ln = 2 ∧ (y1 = 0)) = zz) := ⟨_, Lib.hid rfl⟩
      go_upto_region 12 with fail
      go_cut [55] (fun c wx => c = .bool B55 ∧ wr = wx)
      case first =>
        by_cases hl1 : ln = 2
        · subst hl1
          obtain ⟨b1, o1, c1', e1', -, hl⟩ := HROW.out.form (by rw [HLN.out]; omega)
          rw [HLN.out] at hl e1'
          simp only [Value.slice.injEq] at e1'
          obtain ⟨rfl, -, rfl⟩ := e1'
          have dw := hl 0 (by omega)
          obtain ⟨x, HXX⟩ : ∃ x, Hid ((ll.getD j []).getD 0 0 = x) := ⟨_, Lib.hid rfl⟩
          rw [HXX.out, Nat.add_zero] at dw
          have dv := hl 1 (by omega)
          rw [HY1.out] at dv
          have HBL : Hid (b1 < w.heap.size) := Lib.hid (World.block_lt_of_cell? w _ dw)
          have HBX1 : Hid (b1 ≠ X) := Lib.hid (fun e => HP.out.rel.nX (by rw [← e]; exact HBL.out))
          have d0 := HP.out.rel.chg.cell_some dw (fun hn => hn HBL.out)
          have d1 := HP.out.rel.chg.cell_some dv (fun hn => hn HBL.out)
          by_cases hy : y1 = 0
          · have hyb : (y1 == 0) = true := by rw [beq_iff_eq]; exact hy
            have hB : B55 = true := by rw [← HB55.out]; simp [hy]
            clear hy hl
            go_wp2_with fail
            go_meet
            case rel => exact ⟨by rw [hB], rfl⟩
          · have hyb : (y1 == 0) = false := by rw [beq_eq_false_iff_ne]; exact hy
            have hB : B55 = false := by rw [← HB55.out]; simp [hy]
            clear hy hl
            go_wp2_with fail
            go_meet
            case rel => exact ⟨by rw [hB], rfl⟩
        · have hb1 : ((ln : Int) == 2) = false := by rw [beq_eq_false_iff_ne]; omega
          have hB : B55 = false := by rw [← HB55.out]; simp [hl1]
          go_wp2_with fail
          go_meet
          case rel => exact ⟨by rw [hB], rfl⟩
      case rest =>
      obtain ⟨rfl, rfl⟩ := hcut
      go_upto_if 55 with fail
      go_cut [10] (fun _ wx => ∃ s', Hid (TP (3 * (j : Int) + 3) w wx X t g k s'))
      case first =>
        as_aux_lemma =>
          cases hB : B55 with
          | true =>
            have hl1 : ln = 2 := by have := HB55.out; rw [hB] at this; exact (of_decide_eq_true this).1
            subst hl1
            clear hB
            obtain ⟨b1, o1, c1', e1', -, hl⟩ := HROW.out.form (by rw [HLN.out]; omega)
            rw [HLN.out] at hl e1'
            simp only [Value.slice.injEq] at e1'
            obtain ⟨rfl, -, rfl⟩ := e1'
            have dw := hl 0 (by omega)
            obtain ⟨x, HXX⟩ : ∃ x, Hid ((ll.getD j []).getD 0 0 = x) := ⟨_, Lib.hid rfl⟩
            rw [HXX.out, Nat.add_zero] at dw
            have dv := hl 1 (by omega)
            rw [HY1.out] at dv
            have HBL : Hid (b1 < w.heap.size) := Lib.hid (World.block_lt_of_cell? w _ dw)
            have HBX1 : Hid (b1 ≠ X) := Lib.hid (fun e => HP.out.rel.nX (by rw [← e]; exact HBL.out))
            have d0 := HP.out.rel.chg.cell_some dw (fun hn => hn HBL.out)
            have d1 := HP.out.rel.chg.cell_some dv (fun hn => hn HBL.out)
            obtain ⟨S1, us, hS1, hBX, hRD, hput⟩ := HP.out.rel.doc (tokenAdopts t g s)
            have HBX := Lib.hid hBX
            have HRD := Lib.hid hRD
            have HPUT := Lib.hid hput
            have HUL : Hid (us.length = 8) := Lib.hid hRD.len
            have HER := Lib.hid (askErr_rng s x)
            have HSR := Lib.hid (fun wq (h : RdS S1 wq us (tf s)) => ask_ref S1 wq us s h HP.out.good x)
            have HNT := Lib.hid (fun S5 w5 (h : TIn S5 w5 t g s) => ask_any S5 w5 t g s h HP.out.good.sane x)
            have HMS := Lib.hid (ask_ms HP.out.inv x)
            have HI2 := Lib.hid (HP.out.inv.askD x)
            obtain ⟨s9, HS9⟩ : ∃ s9, Hid (s.ask x = s9) := ⟨_, Lib.hid rfl⟩
            obtain ⟨ke, HKE⟩ : ∃ ke, Hid (s.askErr x = ke) := ⟨_, Lib.hid rfl⟩
            unfold ErrPost at HNT
            rw [HS9.out] at HSR HNT HI2 HMS
            rw [HKE.out] at HSR HNT HER
            have HNN : Hid (s9.n = k) := Lib.hid (HI2.out.2.1.trans HP.out.hn)
            clear hS1 hBX hRD hput hl
            go_wp2_with fail
            refine wp_region_plan (Chg (fun b => b = X) wr) 10 [(1,true),(2,true),(3,true),(0,false),(4,false),(5,true),(6,true),(7,true),(8,false),(9,true)] mixed (by kernel_rfl) (Chg.refl _ _).drew ?_
            simp only [planOps, List.map_cons, List.map_nil, List.getElem?_cons_zero, List.getElem?_cons_succ, Option.getD_some]
            generalize hops : List.toArray _ = ops
            iterate 3 (refine wpPlan_quiet (v := ?_) rfl (fun _ _ _ h => h) (by intro w1 hS; have s0 := hS.cell_some d0 (fun e => HBX1.out e); clear hS; go_simp; with_reducible rfl) ?_; (simp only [Act.put, List.setIfInBounds_toArray, List.set_cons_zero, List.set_cons_succ]))
            refine wpPlan_loud rfl (fun K hK => ?_)
            refine wp_loadT aggToken _ rfl X us (by rfl) (HBX.out.keep ((Chg.refl NoF wr).drew) (fun h => h)) HUL.out ?_
            refine hK _ _ (fun _ => (Chg.refl _ _).drew) ?_
            clear hK K
            (try simp only [Act.put, List.setIfInBounds_toArray, List.set_cons_zero, List.set_cons_succ])
            refine wpPlan_loud rfl (fun K hK => ?_)
            go_simp
            refine (HSR.out wr.drew (HRD.out.keep ((Chg.refl NoF wr).drew) (fun _ _ h => h))).mono ?_
            rintro e w1 ⟨v1, rfl, us1, rfl, hr1, hc1⟩
            have HCZ : Hid (Chg NoF wr w1) := Lib.hid (((Chg.refl NoF wr).drew).trans hc1)
            have HR1 := Lib.hid hr1
            refine hK _ _ (fun _ => HCZ.out.ofNo) ?_
            clear hK K hr1 hc1
            (try simp only [Act.put, List.setIfInBounds_toArray, List.set_cons_zero, List.set_cons_succ])
            iterate 3 (refine wpPlan_quiet (v := ?_) rfl (fun _ _ _ h => h) (by intro w1 hS; clear hS; go_simp; with_reducible rfl) ?_; (simp only [Act.put, List.setIfInBounds_toArray, List.set_cons_zero, List.set_cons_succ]))
            refine wpPlan_loud rfl (fun K hK => ?_)
            refine wp_storeT aggToken _ _ rfl X us1 us (by rfl) (by rfl) HR1.out.len (HBX.out.keep HCZ.out (fun h => h)) HUL.out HR1.out.one ?_
            intro w5 hB5 hc5
            have HP5 := Lib.hid (HPUT.out w1 w5 us1 _ HCZ.out HR1.out hB5 hc5)
            refine hK _ _ (fun _ => HCZ.out.ofNo.trans hc5) ?_
            clear hK K hB5 hc5
            (try simp only [Act.put])
            (refine wpPlan_quiet (v := ?_) rfl (fun _ _ _ h => h) (by intro w1 hS; clear hS; go_simp; with_reducible rfl) ?_; (simp only [Act.put, List.setIfInBounds_toArray, List.set_cons_zero, List.set_cons_succ]))
            clear hops
            refine wpPlan_nil ?_
            clear d0 d1 HBX HRD HSR HPUT HR1 HCZ
            have d0 := HP5.out.chg.cell_some dw (fun hn => hn HBL.out)
            have nd0 : ¬ NewB w b1 := fun hn => hn HBL.out
            go_wp2_with fail
            obtain ⟨S5, hin5, hstep5⟩ := HP5.out.net
            refine (HNT.out S5 _ hin5).mono ?_
            rintro e w6 ⟨rfl, hin6, hc6⟩
            have HP6 : Hid (TP (3 * (j : Int) + 3) w w6 X t g k s9) := Lib.hid ⟨hstep5 w6 (fun S wr => TIn S wr t g s9) hin6 hc6, HI2.out.1, HNN.out, by have := HP.out.ms; have := HMS.out; have := HUP.out; omega, HUP.out.2⟩
            clear hin5 hstep5 hin6 hc6 HP5 HNT d0
            go_wp2_with fail
            refine (error_any ke ke (by have := HER.out; omega) (by have := HER.out; omega) w6 (HG.out.new HP6.out.rel.chg)).mono ?_
            rintro e w7 ⟨rfl, hc7⟩
            have HP7 := Lib.hid (HP6.out.no hc7)
            simp only [decide_true]
            clear hc7 HP6 dw nd0 dv
            go_wp2_with fail
            go_meet
            case rel => exact ⟨s9, HP7⟩
          | false =>
            go_wp2_with fail
            go_meet
            case rel => exact ⟨s, Lib.hid (HP.out.up HUP.out.1 HUP.out.2)⟩
      case rest =>
      obtain ⟨s2, HP2⟩ := hcut
      clear hcw
      clear HP
      obtain ⟨B80, HB80⟩ : ∃ zz, Hid (decide (ln = 2 ∧ (y1 ≠ 0)) = zz) := ⟨_, Lib.hid rfl⟩
      go_upto_region 16 with fail
      go_cut [80] (fun c wx => c = .bool B80 ∧ wc = wx)
      case first =>
        by_cases hl1 : ln = 2
        · subst hl1
          obtain ⟨b1, o1, c1', e1', -, hl⟩ := HROW.out.form (by rw [HLN.out]; omega)
          rw [HLN.out] at hl e1'
          simp only [Value.slice.injEq] at e1'
          obtain ⟨rfl, -, rfl⟩ := e1'
          have dw := hl 0 (by omega)
          obtain ⟨x, HXX⟩ : ∃ x, Hid ((ll.getD j []).getD 0 0 = x) := ⟨_, Lib.hid rfl⟩
          rw [HXX.out, Nat.add_zero] at dw
          have dv := hl 1 (by omega)
          rw [HY1.out] at dv
          have HBL : Hid (b1 < w.heap.size) := Lib.hid (World.block_lt_of_cell? w _ dw)
          have HBX1 : Hid (b1 ≠ X) := Lib.hid (fun e => HP2.out.rel.nX (by rw [← e]; exact HBL.out))
          have d0 := HP2.out.rel.chg.cell_some dw (fun hn => hn HBL.out)
          have d1 := HP2.out.rel.chg.cell_some dv (fun hn => hn HBL.out)
          by_cases hy : y1 = 0
          · have hyb : (y1 != 0) = false := by rw [hy]; rfl
            have hB : B80 = false := by rw [← HB80.out]; simp [hy]
            clear hy hl
            go_wp2_with fail
            go_meet
            case rel => exact ⟨by rw [hB], rfl⟩
          · have hyb : (y1 != 0) = true := by rw [bne_iff_ne]; exact hy
            have hB : B80 = true := by rw [← HB80.out]; simp [hy]
            clear hy hl
            go_wp2_with fail
            go_meet
            case rel => exact ⟨by rw [hB], rfl⟩
        · have hb1 : ((ln : Int) == 2) = false := by rw [beq_eq_false_iff_ne]; omega
          have hB : B80 = false := by rw [← HB80.out]; simp [hl1]
          go_wp2_with fail
          go_meet
          case rel => exact ⟨by rw [hB], rfl⟩
      case rest =>
      obtain ⟨rfl, rfl⟩ := hcut
      go_upto_if 80 with fail
      go_cut [10] (fun _ wx => ∃ s', Hid (TP (3 * (j : Int) + 3) w wx X t g k s'))
      case first =>
        as_aux_lemma =>
          cases hB : B80 with
          | true =>
            have hl1 : ln = 2 := by have := HB80.out; rw [hB] at this; exact (of_decide_eq_true this).1
            subst hl1
            clear hB
            obtain ⟨b1, o1, c1', e1', -, hl⟩ := HROW.out.form (by rw [HLN.out]; omega)
            rw [HLN.out] at hl e1'
            simp only [Value.slice.injEq] at e1'
            obtain ⟨rfl, -, rfl⟩ := e1'
            have dw := hl 0 (by omega)
            obtain ⟨x, HXX⟩ : ∃ x, Hid ((ll.getD j []).getD 0 0 = x) := ⟨_, Lib.hid rfl⟩
            rw [HXX.out, Nat.add_zero] at dw
            have dv := hl 1 (by omega)
            rw [HY1.out] at dv
            have HBL : Hid (b1 < w.heap.size) := Lib.hid (World.block_lt_of_cell? w _ dw)
            have HBX1 : Hid (b1 ≠ X) := Lib.hid (fun e => HP2.out.rel.nX (by rw [← e]; exact HBL.out))
            have d0 := HP2.out.rel.chg.cell_some dw (fun hn => hn HBL.out)
            have d1 := HP2.out.rel.chg.cell_some dv (fun hn => hn HBL.out)
            obtain ⟨S1, us, hS1, hBX, hRD, hput⟩ := HP2.out.rel.doc (tokenAdopts t g s2)
            have HBX := Lib.hid hBX
            have HRD := Lib.hid hRD
            have HPUT := Lib.hid hput
            have HUL : Hid (us.length = 8) := Lib.hid hRD.len
            have HER := Lib.hid (leaveErr_rng s2 x)
            have HSR := Lib.hid (fun wq (h : RdS S1 wq us (tf s2)) => leave_ref S1 wq us s2 h HP2.out.good x)
            have HNT := Lib.hid (fun S5 w5 (h : TIn S5 w5 t g s2) => leave_any S5 w5 t g s2 h HP2.out.good.sane x)
            have HMS := Lib.hid (leave_ms HP2.out.inv x)
            have HI2 := Lib.hid (HP2.out.inv.leaveD x)
            obtain ⟨s9, HS9⟩ : ∃ s9, Hid (s2.leave x = s9) := ⟨_, Lib.hid rfl⟩
            obtain ⟨ke, HKE⟩ : ∃ ke, Hid (s2.leaveErr x = ke) := ⟨_, Lib.hid rfl⟩
            unfold ErrPost at HNT
            rw [HS9.out] at HSR HNT HI2 HMS
            rw [HKE.out] at HSR HNT HER
            have HNN : Hid (s9.n = k) := Lib.hid (HI2.out.2.1.trans HP2.out.hn)
            clear hS1 hBX hRD hput hl
            go_wp2_with fail
            refine wp_region_plan (Chg (fun b => b = X) wc) 10 [(1,true),(2,true),(3,true),(0,false),(4,false),(5,true),(6,true),(7,true),(8,false),(9,true)] mixed (by kernel_rfl) (Chg.refl _ _).drew ?_
            simp only [planOps, List.map_cons, List.map_nil, List.getElem?_cons_zero, List.getElem?_cons_succ, Option.getD_some]
            generalize hops : List.toArray _ = ops
            iterate 3 (refine wpPlan_quiet (v := ?_) rfl (fun _ _ _ h => h) (by intro w1 hS; have s0 := hS.cell_some d0 (fun e => HBX1.out e); clear hS; go_simp; with_reducible rfl) ?_; (simp only [Act.put, List.setIfInBounds_toArray, List.set_cons_zero, List.set_cons_succ]))
            refine wpPlan_loud rfl (fun K hK => ?_)
            refine wp_loadT aggToken _ rfl X us (by rfl) (HBX.out.keep ((Chg.refl NoF wc).drew) (fun h => h)) HUL.out ?_
            refine hK _ _ (fun _ => (Chg.refl _ _).drew) ?_
            clear hK K
            (try simp only [Act.put, List.setIfInBounds_toArray, List.set_cons_zero, List.set_cons_succ])
            refine wpPlan_loud rfl (fun K hK => ?_)
            go_simp
            refine (HSR.out wc.drew (HRD.out.keep ((Chg.refl NoF wc).drew) (fun _ _ h => h))).mono ?_
            rintro e w1 ⟨v1, rfl, us1, rfl, hr1, hc1⟩
            have HCZ : Hid (Chg NoF wc w1) := Lib.hid (((Chg.refl NoF wc).drew).trans hc1)
            have HR1 := Lib.hid hr1
            refine hK _ _ (fun _ => HCZ.out.ofNo) ?_
            clear hK K hr1 hc1
            (try simp only [Act.put, List.setIfInBounds_toArray, List.set_cons_zero, List.set_cons_succ])
            iterate 3 (refine wpPlan_quiet (v := ?_) rfl (fun _ _ _ h => h) (by intro w1 hS; clear hS; go_simp; with_reducible rfl) ?_; (simp only [Act.put, List.setIfInBounds_toArray, List.set_cons_zero, List.set_cons_succ]))
            refine wpPlan_loud rfl (fun K hK => ?_)
            refine wp_storeT aggToken _ _ rfl X us1 us (by rfl) (by rfl) HR1.out.len (HBX.out.keep HCZ.out (fun h => h)) HUL.out HR1.out.one ?_
            intro w5 hB5 hc5
            have HP5 := Lib.hid (HPUT.out w1 w5 us1 _ HCZ.out HR1.out hB5 hc5)
            refine hK _ _ (fun _ => HCZ.out.ofNo.trans hc5) ?_
            clear hK K hB5 hc5
            (try simp only [Act.put])
            (refine wpPlan_quiet (v := ?_) rfl (fun _ _ _ h => h) (by intro w1 hS; clear hS; go_simp; with_reducible rfl) ?_; (simp only [Act.put, List.setIfInBounds_toArray, List.set_cons_zero, List.set_cons_succ]))
            clear hops
            refine wpPlan_nil ?_
            clear d0 d1 HBX HRD HSR HPUT HR1 HCZ
            have d0 := HP5.out.chg.cell_some dw (fun hn => hn HBL.out)
            have nd0 : ¬ NewB w b1 := fun hn => hn HBL.out
            go_wp2_with fail
            obtain ⟨S5, hin5, hstep5⟩ := HP5.out.net
            refine (HNT.out S5 _ hin5).mono ?_
            rintro e w6 ⟨rfl, hin6, hc6⟩
            have HP6 : Hid (TP (3 * (j : Int) + 3) w w6 X t g k s9) := Lib.hid ⟨hstep5 w6 (fun S wr => TIn S wr t g s9) hin6 hc6, HI2.out.1, HNN.out, by have := HP2.out.ms; have := HMS.out; have := HUP.out; omega, HUP.out.2⟩
            clear hin5 hstep5 hin6 hc6 HP5 HNT d0
            go_wp2_with fail
            refine (error_any ke ke (by have := HER.out; omega) (by have := HER.out; omega) w6 (HG.out.new HP6.out.rel.chg)).mono ?_
            rintro e w7 ⟨rfl, hc7⟩
            have HP7 := Lib.hid (HP6.out.no hc7)
            simp only [decide_true]
            clear hc7 HP6 dw nd0 dv
            go_wp2_with fail
            go_meet
            case rel => exact ⟨s9, HP7⟩
          | false =>
            go_wp2_with fail
            go_meet
            case rel => exact ⟨s2, HP2⟩
      case rest =>
      obtain ⟨s3, HP3⟩ := hcut
      clear HP2
      go_upto_if 99 with fail
      go_cut [10] (fun _ wx => ∃ s', Hid (TP (3 * (j : Int) + 3) w wx X t g k s'))
      case first =>
        as_aux_lemma =>
          by_cases hl1 : ln = 3
          · subst hl1
            obtain ⟨b1, o1, c1', e1', -, hl⟩ := HROW.out.form (by rw [HLN.out]; omega)
            rw [HLN.out] at hl e1'
            simp only [Value.slice.injEq] at e1'
            obtain ⟨rfl, -, rfl⟩ := e1'
            have dw := hl 0 (by omega)
            obtain ⟨x, HXX⟩ : ∃ x, Hid ((ll.getD j []).getD 0 0 = x) := ⟨_, Lib.hid rfl⟩
            rw [HXX.out, Nat.add_zero] at dw
            have dv := hl 1 (by omega)
            rw [HY1.out] at dv
            have HBL : Hid (b1 < w.heap.size) := Lib.hid (World.block_lt_of_cell? w _ dw)
            have HBX1 : Hid (b1 ≠ X) := Lib.hid (fun e => HP3.out.rel.nX (by rw [← e]; exact HBL.out))
            have d0 := HP3.out.rel.chg.cell_some dw (fun hn => hn HBL.out)
            have d1 := HP3.out.rel.chg.cell_some dv (fun hn => hn HBL.out)
            obtain ⟨S1, us, hS1, hBX, hRD, hput⟩ := HP3.out.rel.doc (tokenAdopts t g s3)
            have HBX := Lib.hid hBX
            have HRD := Lib.hid hRD
            have HPUT := Lib.hid hput
            have HUL : Hid (us.length = 8) := Lib.hid hRD.len
            have HER := Lib.hid (stepErr_rng s3 x y1)
            have HSR := Lib.hid (fun wq (h : RdS S1 wq us (tf s3)) => step_ref S1 wq us s3 h HP3.out.good x y1)
            have HNT := Lib.hid (fun S5 w5 (h : TIn S5 w5 t g s3) => step_any S5 w5 t g s3 h HP3.out.good.sane x y1)
            have HMS := Lib.hid (step_ms HP3.out.inv x y1)
            have HI2 := Lib.hid (HP3.out.inv.stepD x y1)
            obtain ⟨s9, HS9⟩ : ∃ s9, Hid (s3.step x y1 = s9) := ⟨_, Lib.hid rfl⟩
            obtain ⟨ke, HKE⟩ : ∃ ke, Hid (s3.stepErr x y1 = ke) := ⟨_, Lib.hid rfl⟩
            unfold ErrPost at HNT
            rw [HS9.out] at HSR HNT HI2 HMS
            rw [HKE.out] at HSR HNT HER
            have HNN : Hid (s9.n = k) := Lib.hid (HI2.out.2.1.trans HP3.out.hn)
            clear hS1 hBX hRD hput hl
            go_wp2_with fail
            refine wp_region_plan (Chg (fun b => b = X) wc) 13 [(1,true),(2,true),(3,true),(4,true),(5,true),(6,true),(0,false),(7,false),(8,true),(9,true),(10,true),(11,false),(12,true)] mixed (by kernel_rfl) (Chg.refl _ _).drew ?_
            simp only [planOps, List.map_cons, List.map_nil, List.getElem?_cons_zero, List.getElem?_cons_succ, Option.getD_some]
            generalize hops : List.toArray _ = ops
            iterate 6 (refine wpPlan_quiet (v := ?_) rfl (fun _ _ _ h => h) (by intro w1 hS; have s0 := hS.cell_some d0 (fun e => HBX1.out e); have s1 := hS.cell_some d1 (fun e => HBX1.out e); clear hS; go_simp; with_reducible rfl) ?_; (simp only [Act.put, List.setIfInBounds_toArray, List.set_cons_zero, List.set_cons_succ]))
            refine wpPlan_loud rfl (fun K hK => ?_)
            refine wp_loadT aggToken _ rfl X us (by rfl) (HBX.out.keep ((Chg.refl NoF wc).drew) (fun h => h)) HUL.out ?_
            refine hK _ _ (fun _ => (Chg.refl _ _).drew) ?_
            clear hK K
            (try simp only [Act.put, List.setIfInBounds_toArray, List.set_cons_zero, List.set_cons_succ])
            refine wpPlan_loud rfl (fun K hK => ?_)
            go_simp
            refine (HSR.out wc.drew (HRD.out.keep ((Chg.refl NoF wc).drew) (fun _ _ h => h))).mono ?_
            rintro e w1 ⟨v1, rfl, us1, rfl, hr1, hc1⟩
            have HCZ : Hid (Chg NoF wc w1) := Lib.hid (((Chg.refl NoF wc).drew).trans hc1)
            have HR1 := Lib.hid hr1
            refine hK _ _ (fun _ => HCZ.out.ofNo) ?_
            clear hK K hr1 hc1
            (try simp only [Act.put, List.setIfInBounds_toArray, List.set_cons_zero, List.set_cons_succ])
            iterate 3 (refine wpPlan_quiet (v := ?_) rfl (fun _ _ _ h => h) (by intro w1 hS; clear hS; go_simp; with_reducible rfl) ?_; (simp only [Act.put, List.setIfInBounds_toArray, List.set_cons_zero, List.set_cons_succ]))
            refine wpPlan_loud rfl (fun K hK => ?_)
            refine wp_storeT aggToken _ _ rfl X us1 us (by rfl) (by rfl) HR1.out.len (HBX.out.keep HCZ.out (fun h => h)) HUL.out HR1.out.one ?_
            intro w5 hB5 hc5
            have HP5 := Lib.hid (HPUT.out w1 w5 us1 _ HCZ.out HR1.out hB5 hc5)
            refine hK _ _ (fun _ => HCZ.out.ofNo.trans hc5) ?_
            clear hK K hB5 hc5
            (try simp only [Act.put])
            (refine wpPlan_quiet (v := ?_) rfl (fun _ _ _ h => h) (by intro w1 hS; clear hS; go_simp; with_reducible rfl) ?_; (simp only [Act.put, List.setIfInBounds_toArray, List.set_cons_zero, List.set_cons_succ]))
            clear hops
            refine wpPlan_nil ?_
            clear d0 d1 HBX HRD HSR HPUT HR1 HCZ
            have d0 := HP5.out.chg.cell_some dw (fun hn => hn HBL.out)
            have d1 := HP5.out.chg.cell_some dv (fun hn => hn HBL.out)
            have nd0 : ¬ NewB w b1 := fun hn => hn HBL.out
            go_wp2_with fail
            refine wp_region_plan (Chg (NewB w) w) 11 [(0,true),(1,true),(2,true),(3,true),(4,true),(5,true),(6,true),(8,true),(7,false),(9,false),(10,true)] mixed (by kernel_rfl) (HP5.out.chg.drew) ?_
            simp only [planOps, List.map_cons, List.map_nil, List.getElem?_cons_zero, List.getElem?_cons_succ, Option.getD_some]
            generalize hops : List.toArray _ = ops
            iterate 8 (refine wpPlan_quiet (v := ?_) rfl (fun _ _ _ h => h) (by intro w1 hS; have s0 := hS.cell_some dw nd0; have s1 := hS.cell_some dv nd0; clear hS; go_simp; with_reducible rfl) ?_; (simp only [Act.put, List.setIfInBounds_toArray, List.set_cons_zero, List.set_cons_succ]))
            refine wpPlan_loud rfl (fun K hK => ?_)
            go_simp
            obtain ⟨S5, hin5, hstep5⟩ := (HP5.out.no (tokenAdopts t g s3) ((Chg.refl NoF w5).drew)).net
            refine (HNT.out S5 _ hin5).mono ?_
            rintro e w6 ⟨rfl, hin6, hc6⟩
            have HP6 : Hid (TP (3 * (j : Int) + 3) w w6 X t g k s9) := Lib.hid ⟨hstep5 w6 (fun S wr => TIn S wr t g s9) hin6 hc6, HI2.out.1, HNN.out, by have := HP3.out.ms; have := HMS.out; have := HUP.out; omega, HUP.out.2⟩
            refine hK _ _ (fun _ => HP6.out.rel.chg) ?_
            clear hK K hin5 hstep5 hin6 hc6 HP5 HNT d0 d1
            (try simp only [Act.put, List.setIfInBounds_toArray, List.set_cons_zero, List.set_cons_succ])
            refine wpPlan_loud rfl (fun K hK => ?_)
            go_simp
            refine (error_any ke ke (by have := HER.out; omega) (by have := HER.out; omega) w6 (HG.out.new HP6.out.rel.chg)).mono ?_
            rintro e w7 ⟨rfl, hc7⟩
            have HP7 := Lib.hid (HP6.out.no hc7)
            simp only [decide_true]
            refine hK _ _ (fun _ => HP7.out.rel.chg) ?_
            clear hK K hc7 HP6
            (try simp only [Act.put, List.setIfInBounds_toArray, List.set_cons_zero, List.set_cons_succ])
            (refine wpPlan_quiet (v := ?_) rfl (fun _ _ _ h => h) (by intro w1 hS; clear hS; go_simp; with_reducible rfl) ?_; (simp only [Act.put, List.setIfInBounds_toArray, List.set_cons_zero, List.set_cons_succ]))
            clear hops
            refine wpPlan_nil ?_
            clear dw dv nd0
            go_wp2_with fail
            go_meet
            case rel => exact ⟨s9, HP7⟩
          · have hb1 : ((ln : Int) == 3) = false := by rw [beq_eq_false_iff_ne]; omega
            go_wp2_with fail
            go_meet
            case rel => exact ⟨s3, HP3⟩
      case rest =>
      obtain ⟨s4, HP4⟩ := hcut
      clear HP3
      go_upto_if 124 with fail
      go_cut [10] (fun _ wx => ∃ s', Hid (TP (3 * (j : Int) + 3) w wx X t g k s'))
      case first =>
        as_aux_lemma =>
          by_cases hl1 : ln = 1
          · subst hl1
            obtain ⟨S1, us, hS1, hBX, hRD, hput⟩ := HP4.out.rel.doc (tokenAdopts t g s4)
            have HBX := Lib.hid hBX
            have HRD := Lib.hid hRD
            have HPUT := Lib.hid hput
            have HUL : Hid (us.length = 8) := Lib.hid hRD.len
            have HER := Lib.hid (bringErr_rng s4)
            have HSR := Lib.hid (fun wq (h : RdS S1 wq us (tf s4)) => bring_ref S1 wq us s4 h HP4.out.good)
            have HNT := Lib.hid (fun S5 w5 (h : TIn S5 w5 t g s4) => bring_any S5 w5 t g s4 h HP4.out.good.sane)
            have HI2 := Lib.hid HP4.out.inv.bringD
            have HMS := Lib.hid (bring_ms HP4.out.inv)
            obtain ⟨s9, HS9⟩ : ∃ s9, Hid (s4.bring = s9) := ⟨_, Lib.hid rfl⟩
            obtain ⟨ke, HKE⟩ : ∃ ke, Hid (s4.bringErr = ke) := ⟨_, Lib.hid rfl⟩
            unfold ErrPost at HNT
            rw [HS9.out] at HSR HNT HI2 HMS
            rw [HKE.out] at HSR HNT HER
            have HNN : Hid (s9.n = k) := Lib.hid (HI2.out.2.1.trans HP4.out.hn)
            clear hS1 hBX hRD hput
            go_wp2_with (refine wpList_plain rfl (fun K hK => wp_loadT aggToken _ rfl X us (by rfl) HBX.out HUL.out ?_); refine hK _ _ ?_; clear hK)
            refine (HSR.out wc HRD.out).mono ?_
            rintro e w1 ⟨v1, rfl, us1, rfl, hr1, hc1⟩
            have HR1 := Lib.hid hr1
            have HCZ := Lib.hid hc1
            clear hr1 hc1
            go_wp2_with (refine wpList_plain rfl (fun K hK => wp_storeT aggToken _ _ rfl X us1 us (by rfl) (by rfl) HR1.out.len (HBX.out.keep HCZ.out (fun h => h)) HUL.out HR1.out.one ?_); intro w5 hB5 hc5; have HP5 := Lib.hid (HPUT.out w1 w5 us1 _ HCZ.out HR1.out hB5 hc5); clear hB5 hc5; refine hK _ _ ?_; clear hK)
            obtain ⟨S5, hin5, hstep5⟩ := HP5.out.net
            refine (HNT.out S5 _ hin5).mono ?_
            rintro e w6 ⟨rfl, hin6, hc6⟩
            have HP6 : Hid (TP (3 * (j : Int) + 3) w w6 X t g k s9) := Lib.hid ⟨hstep5 w6 (fun S wr => TIn S wr t g s9) hin6 hc6, HI2.out.1, HNN.out, by have := HP4.out.ms; have := HMS.out; omega, HUP.out.2⟩
            clear hin5 hstep5 hin6 hc6 HP5 HNT HBX HRD HSR HPUT HR1 HCZ
            go_wp2_with fail
            refine (error_any ke ke (by have := HER.out; omega) (by have := HER.out; omega) w6 (HG.out.new HP6.out.rel.chg)).mono ?_
            rintro e w7 ⟨rfl, hc7⟩
            have HP7 := Lib.hid (HP6.out.no hc7)
            simp only [decide_true]
            clear hc7 HP6
            go_wp2_with fail
            go_meet
            case rel => exact ⟨s9, HP7⟩
          · have hb1 : ((ln : Int) == 1) = false := by rw [beq_eq_false_iff_ne]; omega
            go_wp2_with fail
            go_meet
            case rel => exact ⟨s4, HP4⟩
      case rest =>
      obtain ⟨s5, HP5⟩ := hcut
      clear HP4
      obtain ⟨S5, us, hSX, hin5, hBX, hRD, -⟩ := HP5.out.rel.all
      obtain ⟨sa, sc, ha, hc, va, vc, qa, qc, wa, wcc, rfl⟩ := tf_opn hRD
      have HTO := Lib.hid (token_any S5 wc t g s5 hin5 (by have := HP5.out.good.sane.que; omega))
      obtain ⟨ho, HHO⟩ : ∃ zz, Hid (s5.holder = zz) := ⟨_, Lib.hid rfl⟩
      obtain ⟨tg, HTG⟩ : ∃ zz, Hid (s5.targetOf = zz) := ⟨_, Lib.hid rfl⟩
      obtain ⟨qn, HQL⟩ : ∃ zz, Hid (s5.queue.length = zz) := ⟨_, Lib.hid rfl⟩
      have HRQ : Hid (Rd (fun b => S5 b ∧ b ≠ X) wc (.slice qa s5.queue.length qc) s5.queue) := Lib.hid (RdS.at (f := .l s5.queue) 6 hRD rfl rfl)
      have HQB : Hid (qn < 500) := Lib.hid (by rw [← HQL.out]; exact HP5.out.good.sane.que)
      rw [HHO.out, HTG.out] at HTO
      rw [HHO.out, HTG.out, HQL.out] at hBX
      rw [HQL.out] at HRQ
      have HBX := Lib.hid hBX
      have hho : (ho != ho) = false := by simp
      have htg : (tg != tg) = false := by simp
      clear hSX hin5 hBX hRD
      go_wp2_with fail
      refine HTO.out.mono ?_
      rintro e w7 ⟨vq, rfl, hrq, hc7⟩
      have HVQ := Lib.hid (hrq.mono (S' := fun _ => True) (fun _ _ _ => trivial))
      have HP7 := Lib.hid (HP5.out.no hc7)
      have HRQ7 := Lib.hid (HRQ.out.keep hc7 (fun _ _ h => h))
      have e3 := (HBX.out.keep hc7 (fun h => h)).cell 3
      have e4 := (HBX.out.keep hc7 (fun h => h)).cell 4
      have e6 := (HBX.out.keep hc7 (fun h => h)).cell 6
      have c3 : w7.cell? ⟨X, 3, none⟩ = some (.int .i64 ho) := e3
      have c4 : w7.cell? ⟨X, 4, none⟩ = some (.int .i64 tg) := e4
      have c6 : w7.cell? ⟨X, 6, none⟩ = some (.slice qa qn qc) := e6
      obtain ⟨vqa, vqc, rfl⟩ := hrq.val
      rw [HQL.out] at HVQ
      clear e3 e4 e6 hrq hc7 HTO HBX HP5 HRQ
      rw [HQL.out]
      go_wp2_with fail
      refine (ints_any (fun _ => True) _ _ _ _ w7 HVQ.out (HRQ7.out.mono (fun _ _ _ => trivial)) (by rw [HQL.out]; have := HQB.out; omega) (by rw [HQL.out]; have := HQB.out; omega)).mono ?_
      rintro e w8 ⟨rfl, kz, rfl⟩
      simp only [decide_true]
      have HP8 : Hid (TP (3 * (j : Int) + 3) w (w7.drewN kz) X t g k s5) := Lib.hid (HP7.out.no ((Chg.refl NoF w7).drewN kz))
      clear c3 c4 c6 hho htg HP7 HVQ HRQ7
      generalize w7.drewN kz = wz at *
      go_wp2_with fail
      go_loopw [14, 15] (fun i _ wr => ∃ p : Nat, p ≤ k ∧ i = .int .i64 p ∧ Hid (TP (3 * (j : Int) + 3) w wr X t g k s5)) (fun i _ _ => k - (intOf i).toNat)
      case atStart => exact ⟨0, Nat.zero_le _, rfl, HP8⟩
      case round =>
        clear HP8
        obtain ⟨p, hpk, rfl, HP6⟩ := hrel
        by_cases hp : p < k
        · have hp1 : (p : Int) < k := by omega
          have HPK : Hid (p + 1 ≤ k) := Lib.hid hp
          have HPS : Hid (p < s5.n) := Lib.hid (by rw [HP6.out.hn]; exact hp)
          obtain ⟨S6, us, hSX, hin6, hBX, hRD, -⟩ := HP6.out.rel.all
          obtain ⟨sa, sc, ha, hc, va, vc, qa, qc, wa, wcc, rfl⟩ := tf_opn hRD
          obtain ⟨sv, HSV⟩ : ∃ zz, Hid (s5.stOf p = zz) := ⟨_, Lib.hid rfl⟩
          have HST := Lib.hid (state_any S6 wr.drew t g s5 (hin6.keep ((Chg.refl NoF wr).drew)) HP6.out.inv.n1 p)
          rw [stateOf_in HPS.out, HSV.out] at HST
          have HRP : Hid (Rd (fun b => S6 b ∧ b ≠ X) wr (.slice sa s5.n sc) (line s5.n s5.stOf)) := Lib.hid (RdS.at (f := .l (line s5.n s5.stOf)) 1 hRD rfl rfl)
          obtain ⟨bP, oP, cP, eP, -, hcP⟩ := HRP.out.form (by rw [line_len]; have := HPS.out; omega)
          rw [line_len] at eP
          simp only [Value.slice.injEq] at eP
          obtain ⟨rfl, -, rfl⟩ := eP
          have dP := hcP p (by rw [line_len]; exact HPS.out)
          rw [line_at _ HPS.out, HSV.out] at dP
          rw [HP6.out.hn] at hBX
          have c1 : wr.cell? ⟨X, 1, none⟩ = some (.slice (some ⟨bP, oP, none⟩) k sc) := hBX.cell 1
          have hsv : (sv != sv) = false := by simp
          clear hSX hin6 hBX hRD hcP hp hpk HRP
          go_wp2_with fail
          refine wp_region_plan (Chg NoF wr) 9 [(0,true),(1,true),(3,true),(4,true),(5,true),(6,true),(7,true),(2,false),(8,true)] mixed (by kernel_rfl) (Chg.refl _ _).drew ?_
          simp only [planOps, List.map_cons, List.map_nil, List.getElem?_cons_zero, List.getElem?_cons_succ, Option.getD_some]
          generalize hops : List.toArray _ = ops
          iterate 7 (refine wpPlan_quiet (v := ?_) rfl (fun _ _ _ h => h) (by intro w1 hS; have s0 := hS.cell_some c1 (fun h => h); have s1 := hS.cell_some dP (fun h => h); clear hS; go_simp; with_reducible rfl) ?_; (simp only [Act.put, List.setIfInBounds_toArray, List.set_cons_zero, List.set_cons_succ]))
          refine wpPlan_loud rfl (fun K hK => ?_)
          go_simp
          refine HST.out.mono ?_
          rintro e wq ⟨rfl, rfl⟩
          refine hK _ _ (fun _ => (Chg.refl NoF wr).drew) ?_
          clear hK K
          (try simp only [Act.put, List.setIfInBounds_toArray, List.set_cons_zero, List.set_cons_succ])
          (refine wpPlan_quiet (v := ?_) rfl (fun _ _ _ h => h) (by intro w1 hS; clear hS; go_simp; with_reducible rfl) ?_; (simp only [Act.put, List.setIfInBounds_toArray, List.set_cons_zero, List.set_cons_succ]))
          clear hops
          refine wpPlan_nil ?_
          have HP7 := Lib.hid (HP6.out.no ((Chg.refl NoF wr).drew))
          clear c1 dP hsv HST HP6
          generalize wr.drew = wd at *
          go_wp2_with fail
          go_loopw [15] (fun i wr => ∃ z : Nat, z ≤ k ∧ i = .int .i64 z ∧ Hid (TP (3 * (j : Int) + 3) w wr X t g k s5)) (fun i _ => k - (intOf i).toNat)
          case atStart => exact ⟨0, Nat.zero_le _, rfl, HP7⟩
          case round =>
            clear HP7
            obtain ⟨z, hzk, rfl, HP8⟩ := hrel
            by_cases hz : z < k
            · have hz1 : (z : Int) < k := by omega
              have HZK : Hid (z + 1 ≤ k) := Lib.hid hz
              have HZS : Hid (z < s5.n) := Lib.hid (by rw [HP8.out.hn]; exact hz)
              obtain ⟨S8, us, hSX, hin8, hBX, hRD, -⟩ := HP8.out.rel.all
              obtain ⟨sa, sc, ha, hc, va, vc, qa, qc, wa, wcc, rfl⟩ := tf_opn hRD
              have HWY := Lib.hid (way_any S8 wr.drew t g s5 (hin8.keep ((Chg.refl NoF wr).drew)) HP8.out.good.sane p z)
              have hip : s5.is p = true := (s5.is_iff p).2 ⟨p, rfl, HPS.out⟩
              have hiz : s5.is z = true := (s5.is_iff z).2 ⟨z, rfl, HZS.out⟩
              rw [show s5.wayOf p z = s5.ways p z by unfold TNet.wayOf; rw [if_pos ⟨hip, hiz⟩, Int.toNat_natCast, Int.toNat_natCast]] at HWY
              obtain ⟨mm, HMM⟩ : ∃ mm, Hid (p * k = mm) := ⟨_, Lib.hid rfl⟩
              obtain ⟨ix, HIX⟩ : ∃ ix, Hid (mm + z = ix) := ⟨_, Lib.hid rfl⟩
              obtain ⟨nn, HNN⟩ : ∃ nn, Hid (k * k = nn) := ⟨_, Lib.hid rfl⟩
              have HN25 : Hid (nn ≤ 16) := Lib.hid (by rw [← HNN.out]; exact Nat.mul_le_mul HK5.out HK5.out)
              have HIN : Hid (ix < nn) := Lib.hid (by rw [← HIX.out, ← HMM.out, ← HNN.out]; exact flat_lt (by have := HPK.out; omega) hz)
              have hw1 : IntKind.i64.wrap ((p : Int) * (k : Int)) = (mm : Int) := by rw [← Int.natCast_mul, HMM.out]; exact IntWalk.i64_in _ (by have := HIX.out; have := HIN.out; have := HN25.out; omega)
              have hw2 : IntKind.i64.wrap ((mm : Int) + (z : Int)) = (ix : Int) := by rw [← HIX.out, Int.natCast_add]; exact IntWalk.i64_in _ (by have := HIX.out; have := HIN.out; have := HN25.out; omega)
              have hix : (ix : Int) < nn := by have := HIN.out; omega
              have c4 : wr.cell? ⟨X, 7, none⟩ = some (.slice wa (s5.n * s5.n) wcc) := hBX.cell 7
              have HWR : Rd2 (fun b => S8 b ∧ b ≠ X) wr (.slice wa (s5.n * s5.n) wcc) (flat s5.n s5.ways) := RdS.at (f := .r (flat s5.n s5.ways)) 7 hRD rfl rfl
              obtain ⟨bG, oG, cG, u, ev, dr, hru, hrl⟩ := HWR.at (Chg.refl NoF wr) (fun _ _ h => h) (j := ix) (by rw [flat_len, HP8.out.hn, HNN.out]; exact HIN.out)
              rw [← HIX.out, ← HMM.out, ← HP8.out.hn, flat_at _ HPS.out HZS.out] at hru hrl
              rw [flat_len] at ev
              simp only [Value.slice.injEq] at ev
              obtain ⟨rfl, -, rfl⟩ := ev
              rw [HP8.out.hn, HNN.out] at c4
              have HRU := Lib.hid hru
              have HRL := Lib.hid hrl
              obtain ⟨ua', uc', rfl⟩ := hru.val
              obtain ⟨gl, HGL⟩ : ∃ gl, Hid ((s5.ways p z).length = gl) := ⟨_, Lib.hid rfl⟩
              rw [HGL.out] at dr HRU
              clear hSX hin8 hBX hRD hip hiz hru hrl hz hzk HWR
              go_wp2_with fail
              refine wp_region_plan (Chg NoF wr) 15 [(0,true),(1,true),(2,true),(4,true),(5,true),(6,true),(7,true),(8,true),(9,true),(10,true),(11,true),(12,true),(3,false),(13,false),(14,true)] mixed (by kernel_rfl) (Chg.refl _ _).drew ?_
              simp only [planOps, List.map_cons, List.map_nil, List.getElem?_cons_zero, List.getElem?_cons_succ, Option.getD_some]
              generalize hops : List.toArray _ = ops
              iterate 12 (refine wpPlan_quiet (v := ?_) rfl (fun _ _ _ h => h) (by intro w1 hS; have s0 := hS.cell_some c4 (fun h => h); have s1 := hS.cell_some dr (fun h => h); clear hS; go_simp; with_reducible rfl) ?_; (simp only [Act.put, List.setIfInBounds_toArray, List.set_cons_zero, List.set_cons_succ]))
              refine wpPlan_loud rfl (fun K hK => ?_)
              go_simp
              refine HWY.out.mono ?_
              rintro e w9 ⟨vg, rfl, hrd, hc9⟩
              have HC9 : Hid (Chg NoF wr w9) := Lib.hid (((Chg.refl NoF wr).drew).trans hc9)
              have HGV := Lib.hid (hrd.mono (S' := fun _ => True) (fun _ _ _ => trivial))
              refine hK _ _ (fun _ => HC9.out) ?_
              clear hK K hrd hc9 HWY
              (try simp only [Act.put, List.setIfInBounds_toArray, List.set_cons_zero, List.set_cons_succ])
              refine wpPlan_loud rfl (fun K hK => ?_)
              go_simp
              refine (ints_any (fun _ => True) _ _ _ _ w9 HGV.out ((HRU.out.keep HC9.out (fun _ _ h => h)).mono (fun _ _ _ => trivial)) HRL.out HRL.out).mono ?_
              rintro e w10 ⟨rfl, kz, rfl⟩
              simp only [decide_true]
              refine hK _ _ (fun _ => HC9.out.drewN kz) ?_
              clear hK K
              (try simp only [Act.put, List.setIfInBounds_toArray, List.set_cons_zero, List.set_cons_succ])
              (refine wpPlan_quiet (v := ?_) rfl (fun _ _ _ h => h) (by intro w1 hS; clear hS; go_simp; with_reducible rfl) ?_; (simp only [Act.put, List.setIfInBounds_toArray, List.set_cons_zero, List.set_cons_succ]))
              clear hops
              refine wpPlan_nil ?_
              have HP9 : Hid (TP (3 * (j : Int) + 3) w (w9.drewN kz) X t g k s5) := Lib.hid (HP8.out.no (HC9.out.drewN kz))
              clear c4 dr hw1 hw2 hix HP8
              have hk5 := HK5.out
              generalize w9.drewN kz = w11 at *
              go_wp2
              go_roundw
              case rel => exact ⟨z + 1, HZK.out, by go_num, HP9⟩
              case measure => have := HZK.out; simp [intOf]; omega
            · have hz1 : ¬ (z : Int) < k := by omega
              have hk5 := HK5.out
              clear hz hzk
              go_wp2
              go_roundw
              case rel => first | exact ⟨p + 1, HPK.out, by go_num, HP8⟩ | ((repeat apply Exists.intro); exact ⟨⟨HPK.out, by go_num, HP8⟩, rfl⟩)
              case measure => have := HPK.out; simp [intOf]; omega
        · have hp1 : ¬ (p : Int) < k := by omega
          clear hp hpk
          have hpe : (3 * ((j + 1 : Nat) : Int)) = (3 * (j : Int) + 3) := by omega
          have HPN : Hid (TP (3 * ((j + 1 : Nat) : Int)) w wr X t g k s5) := Lib.hid (by rw [hpe]; exact HP6.out)
          clear hpe
          go_wp2
          go_roundw
          case rel => first | exact ⟨j + 1, HJJ.out.1, HJJ.out.2, by go_num, s5, HPN⟩ | ((repeat apply Exists.intro); exact ⟨⟨HJJ.out.1, HJJ.out.2, by go_num, HPN⟩, rfl⟩)
          case measure => have := HJJ.out; simp [intOf]; omega
    · have hjs : ¬ (j : Int) < sl ∨ ((j : Int) < sl ∧ ¬ (j : Int) < 200) := by omega
      obtain ⟨S5, hin5, -⟩ := HP.out.rel.net
      have HST := Lib.hid (state_any S5 wr t g s hin5 HP.out.inv.n1 (-1))
      have hn1 : ¬ s.is (-1) = true := fun h => by obtain ⟨a, h1, h2⟩ := (s.is_iff (-1)).1 h; omega
      have hnk : ¬ s.is k = true := fun h => by obtain ⟨a, h1, h2⟩ := (s.is_iff k).1 h; have := HP.out.hn; omega
      rw [show s.stateOf (-1) = -1 by unfold TNet.stateOf; rw [if_neg hn1]] at HST
      have HWY := Lib.hid (way_any S5 wr t g s hin5 HP.out.good.sane 0 k)
      rw [show s.wayOf 0 k = [] by unfold TNet.wayOf; rw [if_neg (fun h => hnk h.2)]] at HWY
      clear hin5 hn1 hnk hlt hjsl hj150
      rcases hjs with hjs | ⟨hjs1, hjs2⟩
      all_goals
        go_wp2_with fail
        refine HST.out.mono ?_
        rintro e wq ⟨rfl, rfl⟩
        go_wp2_with fail
        refine HWY.out.mono ?_
        rintro e w7 ⟨vg, rfl, hrd, hc7⟩
        obtain ⟨va, vc, rfl⟩ := hrd.val
        clear hrd
        go_wp2
        go_ret
        exact ⟨rfl, HP.out.rel.chg.trans hc7.ofNo⟩

end Go.Proofs.YthblnljjhbdejaaDoor
