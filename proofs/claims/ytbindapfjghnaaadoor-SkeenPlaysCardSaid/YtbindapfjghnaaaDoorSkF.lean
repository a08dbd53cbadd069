/-
  The net that tells all the same in the same order: fixing.
  Conditions: a net as New made it, behind any deeds.
-/
import Derived.Test.YtbindapfjghnaaaDoorSkE
namespace Go.Proofs.YtbindapfjghnaaaDoor
open Go Go.RowKit

set_option maxHeartbeats 8000000 in
set_option maxRecDepth 100000 in
theorem fix_any (S : Nat → Prop) (w : World) (t g : Nat) (s : SNet) (h : SIn S w t g s) (hI : SInv s) (p k : Int) :
    Calls Tryd.prog 12 #[.pointer (some ⟨t, 0, none⟩), .int .i64 p, .int .i64 k] w (TwoPost S w t g (s.fixVal p k) (s.fixErr p k) (s.fixIt p k)) := by
  have HIN := Lib.hid h
  have HINV := Lib.hid hI
  have hs := hI.toSPre
  have HP := Lib.hid (is_any S w t g s h hs p k)
  have bad : ∀ (w' : World), SIn S w' t g s → Chg (fun k => ¬ S k) w w' → ∀ n : Int, s.fixErr p k = n → n ≠ 0 → TwoPost S w t g (s.fixVal p k) (s.fixErr p k) (s.fixIt p k) (.returned (.tuple #[.int .i64 0, errV n])) w' := fun w' h1 h2 n hn h0 =>
    ⟨by unfold SNet.fixVal; rw [if_neg (by rw [hn]; exact h0), hn], by unfold SNet.fixIt; rw [if_neg (by rw [hn]; exact h0)]; exact h1, h2⟩
  have BAD := Lib.hid bad
  clear bad
  cases hip : s.is p k with
  | false =>
    have hE : Hid (s.fixErr p k = 1) := Lib.hid (by unfold SNet.fixErr; rw [if_pos hip])
    rw [hip] at HP
    clear h hs hip hI
    go_enter Tryd.func12, Tryd.ntmps12
    go_wp2_with fail
    refine HP.out.mono ?_
    rintro e w' ⟨rfl, rfl⟩
    go_wp2
    go_ret2
    exact BAD.out _ HIN.out (Chg.refl _ _) 1 hE.out (by decide)
  | true =>
  rw [hip] at HP
  obtain ⟨a, b, rfl, rfl, ha, hb⟩ := (s.is_iff p k).1 hip
  have HIP := Lib.hid hip
  obtain ⟨V, tag, ⟨cN, vN⟩, h⟩ := h
  obtain ⟨gA, cA, bA, cB, vA, vB, c1, d1, hcell, hfr, nbt, ngt, ngb, hSb, nclk⟩ := h.atAt hb hs.n1
  obtain ⟨bC, cC, vC, hclk, hclkf, nCt, hSC, c0⟩ := h.clkAt hs.n1
  have HCELL := Lib.hid hcell
  have HFR := Lib.hid hfr
  have HH := Lib.hid h
  have HVN := Lib.hid vN
  have HVC := Lib.hid vC
  have HVB := Lib.hid vB
  have HSB := Lib.hid hSb
  have HSC := Lib.hid hSC
  have HA := Lib.hid ha
  have HB := Lib.hid hb
  have kC := hclk a ha
  have fC : w.frozen? ⟨bC, a, none⟩ = false := hclkf a
  have nCA : ¬ bC = bA := fun e => nclk (by rw [vC, e]; rfl)
  have HNE : Hid (¬ bA = bC ∧ ¬ t = bA ∧ ¬ t = bC ∧ ¬ gA = bA ∧ bC < w.heap.size ∧ bA < w.heap.size) := Lib.hid ⟨fun e => nCA e.symm, fun e => nbt e.symm, fun e => nCt e.symm, ngb, World.block_lt_of_cell? _ _ kC, World.block_lt_of_cell? _ _ (hcell a ha).1⟩
  obtain ⟨y, HY⟩ : ∃ y, Hid (s.clk a = y) := ⟨_, Lib.hid rfl⟩
  rw [HY.out] at kC
  have HKC := Lib.hid kC
  have HFC := Lib.hid fC
  have hn := hs.n4
  have hm := hs.m20
  obtain ⟨n, hN⟩ : ∃ n, Hid (s.n = n) := ⟨_, Lib.hid rfl⟩
  obtain ⟨m, hM⟩ : ∃ m, Hid (s.m = m) := ⟨_, Lib.hid rfl⟩
  rw [hN.out] at d1 hn ha c0 HCELL
  rw [hM.out] at c1 hm hb
  have ha1 : (a : Int) < n := by omega
  have hb1 : (b : Int) < m := by omega
  have HC0 := Lib.hid c0
  have HC1 := Lib.hid c1
  have HD1 := Lib.hid d1
  clear h vN vA vB vC hcell hfr hclk hclkf hs hip hSb hSC nclk nbt ngt ngb nCt c0 kC fC nCA hI
  have HW : Hid (Chg NoF w w) := Lib.hid (Chg.refl _ _)
  go_enter Tryd.func12, Tryd.ntmps12
  go_wp2_with fail
  refine HP.out.mono ?_
  rintro e w' ⟨rfl, rfl⟩
  go_wp2_with fail
  clear c1 d1
  go_loopw [26, 8] (fun i mo wq => ∃ j : Nat, j ≤ n ∧ i = .int .i64 j ∧ mo = .int .i64 (mostL s b j) ∧ Hid (allHere s b j = true) ∧ Hid (Chg NoF w wq)) (fun i _ _ => n - (intOf i).toNat)
  case atStart => exact ⟨0, Nat.zero_le _, rfl, rfl, Lib.hid rfl, HW⟩
  case round =>
    obtain ⟨j, hjn, rfl, rfl, HAL, HQ⟩ := hrel
    obtain ⟨mo, HMO⟩ : ∃ x, Hid (mostL s b j = x) := ⟨_, Lib.hid rfl⟩
    rw [HMO.out]
    by_cases hj : j < n
    · have hj1 : (j : Int) < n := by omega
      have HJ : Hid (j + 1 ≤ n) := Lib.hid hj
      obtain ⟨e0, e1, e2⟩ := HCELL.out j hj
      have e0 := HQ.out.cell_some e0 (fun h => h)
      have e1 := HQ.out.cell_some e1 (fun h => h)
      have e2 := HQ.out.cell_some e2 (fun h => h)
      obtain ⟨tk, HTK⟩ : ∃ x, Hid (s.tm b j = x) := ⟨_, Lib.hid rfl⟩
      obtain ⟨hk', HHK⟩ : ∃ x, Hid (s.here b j = x) := ⟨_, Lib.hid rfl⟩
      obtain ⟨fk, HFK⟩ : ∃ x, Hid (s.fix b j = x) := ⟨_, Lib.hid rfl⟩
      rw [HTK.out] at e0
      rw [HHK.out] at e1
      rw [HFK.out] at e2
      have HQ2 : Hid (Chg NoF w (wr.alloc (Obj.cells #[.int .i64 tk, .bool hk', .bool fk] 58))) := Lib.hid (HQ.out.alloc _)
      cases hk' with
      | false =>
        have hE : Hid (s.fixErr a b = 5) := Lib.hid (by
          unfold SNet.fixErr
          rw [if_neg (by rw [HIP.out]; simp), Int.toNat_natCast, if_pos]
          rw [← Bool.not_eq_true, allHere_iff]
          intro hh; have := hh j (by rw [hN.out]; exact hj); rw [HHK.out] at this; cases this)
        have HBAD := Lib.hid (BAD.out _ (HIN.out.keep HQ2.out) HQ2.out.ofNo 5 hE.out (by decide))
        clear HAL
        go_wp2
        go_ret2
        exact HBAD.out
      | true =>
        have HAL2 : Hid (allHere s b (j + 1) = true) := Lib.hid (by rw [allHere, HAL.out, HHK.out]; rfl)
        have HM2 : Hid (mostL s b (j + 1) = max mo tk) := Lib.hid (by rw [mostL, HMO.out, HTK.out])
        clear HAL
        go_wp2
        go_roundw
        case rel => exact ⟨j + 1, HJ.out, by go_num, by rw [HM2.out], HAL2, HQ2⟩
        case measure => have := HJ.out; simp [intOf]; omega
    · obtain rfl : j = n := by omega
      clear HW
      have c1 := HQ.out.cell_some HC1.out (fun h => h)
      have d1 := HQ.out.cell_some HD1.out (fun h => h)
      obtain ⟨e0, -, e2⟩ := HCELL.out a ha
      have e0 := HQ.out.cell_some e0 (fun h => h)
      have e2 := HQ.out.cell_some e2 (fun h => h)
      have f0 : wr.frozen? ⟨bA, a * 3, none⟩ = false := by rw [World.frozen?_of_block (HQ.out.block bA HNE.out.2.2.2.2.2 (fun h => h))]; exact HFR.out _
      have f2 : wr.frozen? ⟨bA, a * 3 + 2, none⟩ = false := by rw [World.frozen?_of_block (HQ.out.block bA HNE.out.2.2.2.2.2 (fun h => h))]; exact HFR.out _
      obtain ⟨fx, HFX⟩ : ∃ x, Hid (s.fix b a = x) := ⟨_, Lib.hid rfl⟩
      rw [HFX.out] at e2
      cases fx with
      | true =>
        have hE : Hid (s.fixErr a b = 7) := Lib.hid (by
          unfold SNet.fixErr
          rw [if_neg (by rw [HIP.out]; simp), Int.toNat_natCast, Int.toNat_natCast, hN.out, if_neg (by rw [HAL.out]; simp), if_pos HFX.out])
        have HBAD := Lib.hid (BAD.out _ (HIN.out.keep HQ.out) HQ.out.ofNo 7 hE.out (by decide))
        clear HAL
        go_wp2
        go_ret2
        exact HBAD.out
      | false =>
        have hE : Hid (s.fixErr a b = 0) := Lib.hid (by
          unfold SNet.fixErr
          rw [if_neg (by rw [HIP.out]; simp), Int.toNat_natCast, Int.toNat_natCast, hN.out, if_neg (by rw [HAL.out]; simp), if_neg (by rw [HFX.out]; simp)])
        have hG : Hid (s.fixIt a b = (s.fix1 a b).takeAll a ∧ s.fixVal a b = mo) := Lib.hid (by
          unfold SNet.fixIt SNet.fixVal; rw [if_pos hE.out, if_pos hE.out, Int.toNat_natCast, Int.toNat_natCast, hN.out, HMO.out]; exact ⟨rfl, rfl⟩)
        have HPRE : Hid (SPre (s.fix1 a b)) := Lib.hid (HINV.out.fix1 HA.out HB.out (by rw [hN.out]; exact HAL.out) HFX.out).1
        have HE1 : Hid (s.fix1 a b = { s with tm := put2 s.tm b a mo, fix := put2 s.fix b a true, clk := put1 s.clk a (max y mo) }) := Lib.hid (by
          unfold SNet.fix1; rw [hN.out, HMO.out, HY.out])
        have A0 : SAt S wr t s V tag := Mem.more HH.out HQ.out
        have A1 := A0.setTm HB.out HVB.out HA.out mo
        have A2 := SAt.setFix (s := { s with tm := put2 s.tm b a mo }) A1 HB.out HVB.out HA.out true
        have A3 := SAt.setClk (s := { s with tm := put2 s.tm b a mo, fix := put2 s.fix b a true }) A2 HVC.out HA.out (max y mo)
        have HI : Hid (SIn S ((((wr.setCell ⟨bA, a * 3, none⟩ (.int .i64 mo)).setCell ⟨bA, a * 3 + 2, none⟩ (.bool true)).setCell ⟨bC, a, none⟩ (.int .i64 (max y mo))).drew) t g (s.fix1 a b)) := Lib.hid (by
          rw [HE1.out]; exact ⟨V, tag, ⟨cN, HVN.out⟩, Mem.more A3 ((Chg.refl NoF _).drew)⟩)
        have HC : Hid (Chg (fun k => ¬ S k) w ((((wr.setCell ⟨bA, a * 3, none⟩ (.int .i64 mo)).setCell ⟨bA, a * 3 + 2, none⟩ (.bool true)).setCell ⟨bC, a, none⟩ (.int .i64 (max y mo))).drew)) := Lib.hid ((((HQ.out.ofNo.setCell (.inl HSB.out) _).setCell (.inl HSB.out) _).setCell (.inl HSC.out) _).drew)
        obtain ⟨nAC, ntA, ntC, ngA, hCw, hAw⟩ := HNE.out
        have nCA : ¬ bC = bA := fun e => nAC e.symm
        have c0 := HQ.out.cell_some HC0.out (fun h => h)
        have kC := HQ.out.cell_some HKC.out (fun h => h)
        have fC : wr.frozen? ⟨bC, a, none⟩ = false := by rw [World.frozen?_of_block (HQ.out.block bC hCw (fun h => h))]; exact HFC.out
        clear A0 A1 A2 A3 HAL
        have hcS : Chg (fun k => k = bA) wr ((wr.setCell ⟨bA, a * 3, none⟩ (.int .i64 mo)).setCell ⟨bA, a * 3 + 2, none⟩ (.bool true)) := ((Chg.refl (fun k => k = bA) wr).setCell (p := ⟨bA, a * 3, none⟩) (.inl rfl) _).setCell (p := ⟨bA, a * 3 + 2, none⟩) (.inl rfl) _
        have c0' := hcS.cell_some c0 ntA
        have kC' := hcS.cell_some kC nCA
        have fC' : ((wr.setCell ⟨bA, a * 3, none⟩ (.int .i64 mo)).setCell ⟨bA, a * 3 + 2, none⟩ (.bool true)).frozen? ⟨bC, a, none⟩ = false := by
          rw [World.frozen?_of_block (hcS.block bC (Nat.lt_of_lt_of_le hCw HQ.out.size) nCA)]; exact fC
        have HS1 := Lib.hid c0'
        have HS2 := Lib.hid kC'
        have HS3 := Lib.hid fC'
        clear hcS c0' kC' fC' c0 kC fC
        go_wp2_with fail
        have c0 := HS1.out
        have kC := HS2.out
        have fC := HS3.out
        clear c1 d1 e0 e2 f0 f2 HS1 HS2 HS3
        generalize (wr.setCell ⟨bA, a * 3, none⟩ _).setCell ⟨bA, a * 3 + 2, none⟩ _ = w4 at *
        refine wp_region_plan (Chg NoF w4) 15 [(0,true),(1,true),(2,true),(3,true),(4,true),(5,true),(6,true),(7,true),(8,true),(9,true),(10,true),(11,true),(12,true),(13,true),(14,true),(15,false)] mixed (by kernel_rfl) (Chg.refl _ _).drew ?_
        simp only [planOps, List.map_cons, List.map_nil, List.getElem?_cons_zero, List.getElem?_cons_succ, Option.getD_some]
        generalize hops : List.toArray _ = ops
        iterate 15 (refine wpPlan_quiet (v := ?_) rfl (fun _ _ _ h => h) (by intro w1 hS; have s0 := hS.cell_some c0 (fun h => h); have s1 := hS.cell_some kC (fun h => h); clear hS; go_simp; with_reducible rfl) ?_; (simp only [Act.put, List.setIfInBounds_toArray, List.set_cons_zero, List.set_cons_succ]))
        refine wpPlan_loud rfl (fun K hK => ?_)
        go_simp
        refine hK _ _ (fun h => absurd rfl h) ?_
        clear hK K
        clear hops
        refine wpPlan_nil ?_
        clear c0 kC fC
        generalize (w4.setCell _ _).drew = w5 at *
        have HTK := Lib.hid (take_any S w5 t g _ HI.out HPRE.out a HA.out)
        go_wp2_with fail
        refine HTK.out.mono ?_
        rintro e w6 ⟨rfl, hin6, hc6⟩
        have HI6 := Lib.hid hin6
        have HC6 := Lib.hid (HC.out.trans hc6)
        clear hin6 hc6 HTK
        go_wp2
        go_ret2
        exact ⟨by rw [hE.out, hG.out.2]; rfl, by rw [hG.out.1]; exact HI6.out, HC6.out⟩

end Go.Proofs.YtbindapfjghnaaaDoor
