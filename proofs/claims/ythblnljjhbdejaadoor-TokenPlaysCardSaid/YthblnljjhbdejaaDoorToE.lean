/-
  The lock whose token goes from one to the next: stepping.
  Conditions: a net as New made it, behind any deeds.
-/
import Derived.Test.YthblnljjhbdejaaDoorToD
namespace Go.Proofs.YthblnljjhbdejaaDoor
open Go Go.RowKit

set_option maxHeartbeats 4000000 in
set_option maxRecDepth 100000 in
theorem step_any (S : Nat → Prop) (w : World) (t g : Nat) (s : TNet) (h : TIn S w t g s) (hs : Sane s) (p q : Int) :
    Calls Tryd.prog 12 #[.pointer (some ⟨t, 0, none⟩), .int .i64 p, .int .i64 q] w (ErrPost S w t g (s.stepErr p q) (s.step p q)) := by
  have HIN := Lib.hid h
  have HSA := Lib.hid hs
  have HP := Lib.hid (is_any S w t g s h hs.n0 p)
  have HQ := Lib.hid (is_any S w t g s h hs.n0 q)
  have bad : ∀ n : Int, s.stepErr p q = n → n ≠ 0 → ErrPost S w t g (s.stepErr p q) (s.step p q) (.returned (errV n)) w := fun n hn h0 =>
    ⟨by rw [hn], by unfold TNet.step; rw [if_neg (by rw [hn]; exact h0)]; exact HIN.out, Chg.refl _ _⟩
  have BAD := Lib.hid bad
  clear bad
  cases hip : s.is p with
  | false =>
    have hE : Hid (s.stepErr p q = 1) := Lib.hid (by unfold TNet.stepErr; rw [if_pos (.inl hip)])
    rw [hip] at HP
    clear h hs hip
    go_enter Tryd.func12, Tryd.ntmps12
    go_wp2_with fail
    refine HP.out.mono ?_
    rintro e w' ⟨rfl, rfl⟩
    go_wp2
    go_ret
    exact BAD.out 1 hE.out (by decide)
  | true =>
  cases hiq : s.is q with
  | false =>
    have hE : Hid (s.stepErr p q = 1) := Lib.hid (by unfold TNet.stepErr; rw [if_pos (.inr hiq)])
    rw [hip] at HP
    rw [hiq] at HQ
    clear h hs hip hiq
    go_enter Tryd.func12, Tryd.ntmps12
    go_wp2_with fail
    refine HP.out.mono ?_
    rintro e w' ⟨rfl, rfl⟩
    go_wp2_with fail
    refine HQ.out.mono ?_
    rintro e w' ⟨rfl, rfl⟩
    go_wp2
    go_ret
    exact BAD.out 1 hE.out (by decide)
  | true =>
  have HIP := Lib.hid hip
  have HIQ := Lib.hid hiq
  rw [hip] at HP
  rw [hiq] at HQ
  obtain ⟨a, rfl, ha⟩ := (s.is_iff p).1 hip
  obtain ⟨b, rfl, hbn⟩ := (s.is_iff q).1 hiq
  obtain ⟨V, tag, ⟨cN, vN⟩, h⟩ := h
  obtain ⟨gW, cW, gR, cR, vW, vR, cWp, cRq, fR, ltW, ltR, c1⟩ := h.way ha hbn
  obtain ⟨hM, hMb⟩ := h.msg ha hbn
  have HLEN := Lib.hid (hs.len a b ha hbn)
  obtain ⟨M, HM⟩ : ∃ M, Hid (V (.msg a b) = M) := ⟨_, Lib.hid rfl⟩
  obtain ⟨n, hN⟩ : ∃ n, Hid (s.n = n) := ⟨_, Lib.hid rfl⟩
  obtain ⟨l, HL⟩ : ∃ l, Hid (s.ways a b = l) := ⟨_, Lib.hid rfl⟩
  rw [HL.out] at hM HLEN
  rw [HM.out] at hM cRq
  have HMv := Lib.hid hM
  obtain ⟨aM, cM, hMv⟩ := owns_val hM
  cases l with
  | nil =>
    have hE : Hid (s.stepErr a b = 5) := Lib.hid (by unfold TNet.stepErr; rw [if_neg (by rw [hip, hiq]; simp), Int.toNat_natCast, Int.toNat_natCast, if_pos HL.out])
    rw [hMv] at cRq
    rw [hN.out] at c1 cWp ha hbn
    have ha1 : (a : Int) < n := by omega
    have hb1 : (b : Int) < n := by omega
    clear h vN vW vR fR hM hMb hs hip hiq
    go_enter Tryd.func12, Tryd.ntmps12
    go_wp2_with fail
    refine HP.out.mono ?_
    rintro e w' ⟨rfl, rfl⟩
    go_wp2_with fail
    refine HQ.out.mono ?_
    rintro e w' ⟨rfl, rfl⟩
    go_wp2
    go_ret
    exact BAD.out 5 hE.out (by decide)
  | cons x l =>
    have hE : Hid (s.stepErr a b = 0) := Lib.hid (by unfold TNet.stepErr; rw [if_neg (by rw [hip, hiq]; simp), Int.toNat_natCast, Int.toNat_natCast, if_neg (by rw [HL.out]; simp)])
    have hG : Hid (s.step a b = (s.pop a b).hear a b x) := Lib.hid (by unfold TNet.step; rw [if_pos hE.out, Int.toNat_natCast, Int.toNat_natCast, HL.out]; rfl)
    have hown : Own w (fun _ => 0) 0 3 1 M (x :: l).length ((x :: l).map (.int .i64)) := ⟨hM, fun _ _ => rfl⟩
    obtain ⟨gM, cap, hMv2, _, ltM, hcap, hcmax, _, hMc, _⟩ := hown.form' (by simp)
    have HCM := Lib.hid hcmax
    have cX : w.cell? ⟨gM, 0, none⟩ = some (.int .i64 x) := by rw [hMc 0 (by simp)]; rfl
    have nR : ¬ M.ownBlock = some gR := fun hf => (hMb gR (by rw [HM.out]; exact hf)).2.2.2.2.2.1 (by rw [vR]; rfl)
    have HRS : Hid (¬ S gR) := Lib.hid (h.notS (i := .row a) (by rw [s.rowsR _ _ V ha]; show (V (.row a)).ownBlock = _; rw [vR]; rfl))
    have HSET := Lib.hid (fun (w1 : World) (hc : Chg (fun b' => (V (.msg a b)).ownBlock = some b') w w1) => h.setWay ha hbn vR hc)
    have HVN := Lib.hid (fun (v : Value) => show upd V (.msg a b) v .nodes = .slice (some ⟨g, 0, none⟩) s.n cN by rw [upd_ne V _ (by simp)]; exact vN)
    have hcap1 : l.length + 1 ≤ cap := hcap
    have hlen : (x :: l).length = l.length + 1 := rfl
    rw [hMv2, hlen] at cRq
    obtain ⟨m, hm⟩ : ∃ m, Hid (l.length = m) := ⟨_, Lib.hid rfl⟩
    have hlb : l.length < 1000 := by have := HLEN.out; rw [hlen] at this; omega
    rw [hm.out] at cRq hcap1 hlb
    rw [hN.out] at c1 cWp
    have HA := Lib.hid ha
    have HB := Lib.hid hbn
    have ha1 : (a : Int) < n := by rw [← hN.out]; omega
    have hb1 : (b : Int) < n := by rw [← hN.out]; omega
    have hm1 : ((m : Int) + 1 == 0) = false := by rw [beq_eq_false_iff_ne]; omega
    have HOWN := Lib.hid hown
    have HMV2 := Lib.hid hMv2
    have HFR := Lib.hid fR
    clear h vN vW vR fR hM hMb hs hip hiq hMc hcap hown hMv hMv2 hlen ha hbn aM cM HLEN
    go_enter Tryd.func12, Tryd.ntmps12
    go_wp2_with fail
    refine HP.out.mono ?_
    rintro e w' ⟨rfl, rfl⟩
    go_wp2_with fail
    refine HQ.out.mono ?_
    rintro e w' ⟨rfl, rfl⟩
    go_wp2_with fail
    refine wp_region_plan (Chg NoF w) 21 [(0,true),(1,true),(2,true),(3,true),(4,true),(5,true),(6,true),(7,true),(8,true),(9,true),(10,true),(11,true),(12,true),(13,true),(14,true),(15,true),(16,true),(17,true),(18,true),(19,false),(20,true),(21,false)] mixed (by kernel_rfl) (Chg.refl _ w).drew ?_
    simp only [planOps, List.map_cons, List.map_nil, List.getElem?_cons_zero, List.getElem?_cons_succ, Option.getD_some]
    generalize List.toArray _ = ops
    iterate 18 (refine wpPlan_quiet (v := ?_) rfl (fun _ _ _ h => h) (by intro w1 hS; have s1 := hS.cell_some c1 (fun h => h); have s2 := hS.cell_some cWp (fun h => h); have s3 := hS.cell_some cRq (fun h => h); clear hS; go_simp; with_reducible rfl) ?_; (simp only [Act.put, List.setIfInBounds_toArray, List.set_cons_zero, List.set_cons_succ]))
    have hm2 : (1 : Int) ≤ (m : Int) + 1 := by omega
    obtain ⟨off, hoff, hoff2⟩ := tail_off gM 1 cap m hcap1
    have HOFF := Lib.hid hoff2
    clear hoff2
    refine wpPlan_quiet (v := ?_) rfl (fun _ _ _ h => h) (by intro w1 hS; go_simp; with_reducible rfl) ?_; (simp only [Act.put, List.setIfInBounds_toArray, List.set_cons_zero, List.set_cons_succ])
    have hrd : Rd (fun _ => True) w.drew (.slice (some ⟨gM, off, none⟩) m (cap - 1)) l := (Rd.tail (HMV2.out ▸ HOWN.out) hm.out HOFF.out trivial _ (by omega)).keep ((Chg.refl NoF w).drew) (fun _ _ h => h)
    have HCL := Lib.hid (clone_any _ _ l w.drew hrd (by rw [hm.out]; omega))
    rw [hm.out] at HCL
    clear hrd
    refine wpPlan_loud rfl (fun K hK => ?_)
    go_simp
    refine HCL.out.mono ?_
    rintro e w1 ⟨v', rfl, hown1, hcc⟩
    obtain ⟨va, vc, rfl⟩ := owns_val hown1
    have hc1 : Chg NoF w w1 := ((Chg.refl NoF w).drew).trans hcc
    refine hK _ _ (fun _ => hc1) ?_
    clear hK K HCL
    (try simp only [Act.put, List.setIfInBounds_toArray, List.set_cons_zero, List.set_cons_succ])
    refine wpPlan_quiet (v := ?_) rfl (fun _ _ _ h => h) (by intro w1 hS; have s2 := hS.cell_some c1 (fun h => h); have s3 := hS.cell_some cWp (fun h => h); clear hS; go_simp; with_reducible rfl) ?_; (simp only [Act.put, List.setIfInBounds_toArray, List.set_cons_zero, List.set_cons_succ])
    refine wpPlan_loud rfl (fun K hK => ?_)
    have s2 := hc1.cell_some cRq (fun h => h)
    have f2 : w1.frozen? ⟨gR, b, none⟩ = false := by rw [World.frozen?_of_block (hc1.block gR ltR (fun h => h))]; exact HFR.out b
    go_simp
    refine hK _ _ (fun h => absurd rfl h) ?_
    clear hK K
    refine wpPlan_nil ?_
    have hR2 := HSET.out w1 (hc1.mono fun _ _ => False.elim) (.slice va m vc) l (by rw [hm.out]; exact owns_zero hown1) (fun q hq => .inr (hown1.lt q hq).1)
    have hvn := HVN.out (.slice va m vc)
    have hpop : s.pop a b = { s with ways := put2 s.ways a b l } := by unfold TNet.pop; rw [HL.out]; rfl
    rw [← hpop] at hR2
    have hc2 : Chg (fun k => ¬ S k) w (w1.setCell ⟨gR, b, none⟩ (.slice va m vc)) := (hc1.mono fun _ _ => False.elim).setCell (.inl HRS.out) _
    clear s2 f2 hown1 hcc hc1 c1 cWp cRq cX HCM hcmax HMV2 HOWN hcap1 hm1 hm2 hoff HOFF HSET HVN HFR
    generalize w1.setCell ⟨gR, b, none⟩ _ = w2 at *
    generalize upd V (.msg a b) _ = V2 at *
    generalize mark tag _ _ = tag2 at *
    have hvn2 : V2 .nodes = .slice (some ⟨g, 0, none⟩) (s.pop a b).n cN := hvn
    have HR2 : Hid (TAt S w2 t (s.pop a b) (s.pop a b).n (s.pop a b).n V2 tag2) := Lib.hid hR2
    have hn0 : 0 < (s.pop a b).n := HSA.out.n0
    obtain ⟨hcell, hfr, htN, hSg, c0⟩ := HR2.out.nodeAt hvn2
    obtain ⟨_, d1, d2⟩ := hcell b HB.out
    obtain ⟨bX, cX, vX, hXc, hXf, hXt, hXS, hXg⟩ := HR2.out.hadAt (p := b) HB.out hn0
    have kX := hXc a HA.out
    have fX := hXf a
    have ht1 : w2.cell? ⟨t, 1, none⟩ = some (.int .i64 s.holder) := HR2.out.blk.cell 1
    obtain ⟨bV, cV, vV, hVc, _, _, _, _, c3⟩ := HR2.out.servedAt hn0
    have kV := hVc a HA.out
    rw [vX] at d2
    have d1 : w2.cell? ⟨g, b * 3 + 1, none⟩ = some (.bool (s.inn b)) := d1
    have d2 : w2.cell? ⟨g, b * 3 + 2, none⟩ = some (.slice (some ⟨bX, 0, none⟩) s.n cX) := d2
    have c0 : w2.cell? ⟨t, 0, none⟩ = some (.slice (some ⟨g, 0, none⟩) s.n cN) := c0
    have c3 : w2.cell? ⟨t, 3, none⟩ = some (.slice (some ⟨bV, 0, none⟩) s.n cV) := c3
    rw [hN.out] at c0 d2 c3
    have HXS := Lib.hid hXS
    have HSG := Lib.hid hSg
    have HC2 := Lib.hid hc2
    have HVN2 := Lib.hid hvn2
    obtain ⟨sv, HSV⟩ : ∃ y, Hid (s.served a = y) := ⟨_, Lib.hid rfl⟩
    obtain ⟨hd, HHD⟩ : ∃ y, Hid (s.had b a = y) := ⟨_, Lib.hid rfl⟩
    obtain ⟨ho, HHO⟩ : ∃ y, Hid (s.holder = y) := ⟨_, Lib.hid rfl⟩
    obtain ⟨iN, HIN2⟩ : ∃ y, Hid (s.inn b = y) := ⟨_, Lib.hid rfl⟩
    obtain ⟨mx, HMX⟩ : ∃ y, Hid (max hd x = y) := ⟨_, Lib.hid rfl⟩
    rw [show (s.pop a b).had b a = hd from HHD.out] at kX
    rw [show (s.pop a b).served a = sv from HSV.out] at kV
    rw [HHO.out] at ht1
    rw [HIN2.out] at d1
    obtain ⟨hs0, hs1⟩ := HSA.out.srv a HA.out
    rw [HSV.out] at hs0 hs1
    have hwr : IntKind.i64.wrap (sv + 1) = sv + 1 := IntWalk.i64_in _ (by omega)
    have A3 := TAt.setHad HR2.out vX HB.out HA.out (max hd x)
    have nXt : ¬ t = bX := fun e => hXt e.symm
    have nXg : ¬ g = bX := fun e => hXg (by rw [hvn2, e]; rfl)
    obtain ⟨s3, HS3⟩ : ∃ s3, Hid ((s.pop a b).hear1 a b x = s3) := ⟨_, Lib.hid rfl⟩
    have hs3 : ({ s.pop a b with had := put2 (s.pop a b).had b a (max hd x) } : TNet) = s3 := by rw [← HS3.out, ← HHD.out]; rfl
    rw [hs3] at A3
    have HI3 : Hid (TIn S (w2.setCell ⟨bX, a, none⟩ (.int .i64 (max hd x))) t g s3) := Lib.hid (by
      have e : s3.n = s.n := by rw [← HS3.out]; rfl
      refine ⟨V2, tag2, ⟨cN, ?_⟩, ?_⟩
      · rw [e]; exact hvn2
      · rw [e]; exact A3)
    have HF3 : Hid (s3.n = n ∧ s3.holder = ho ∧ s3.inn b = iN ∧ s3.had b a = max hd x ∧ s3.served a = sv ∧ s3.queue = s.queue) := Lib.hid (by
      rw [← HS3.out]
      exact ⟨hN.out, HHO.out, HIN2.out, by show put2 s.had b a (max (s.had b a) x) b a = _; rw [put2_self, HHD.out], HSV.out, rfl⟩)
    have hG2 : Hid (s.step a b = if ho = b ∧ iN = false ∧ max hd x = sv + 1 then ({ s3 with queue := s3.queue ++ [(a : Int)] } : TNet).give else s3) := Lib.hid (by
      rw [hG.out]; unfold TNet.hear
      rw [show (s.pop a b).holder = ho from HHO.out, show (s.pop a b).inn b = iN from HIN2.out, show (s.pop a b).had b a = hd from HHD.out, show (s.pop a b).served a = sv from HSV.out, HS3.out]
      rw [show s3.queue = (s.pop a b).queue by rw [HF3.out.2.2.2.2.2]; rfl])
    have HC3 : Hid (Chg (fun k => ¬ S k) w2 (w2.setCell ⟨bX, a, none⟩ (.int .i64 (max hd x)))) := Lib.hid ((Chg.refl _ w2).setCell (.inl HXS.out) _)
    have FX := Lib.hid fX
    clear hcell hfr hSg hXc hXf hXt hXS hXg vX vV hVc hn0 hc2 hvn hvn2 hR2 hpop A3 hs3 d1 c3 kV ht1 htN fX
    go_wp2_with fail
    refine wp_region_plan (Chg NoF w2) 15 [(0,true),(1,true),(2,true),(3,true),(4,true),(5,true),(6,true),(7,true),(8,true),(9,true),(10,true),(11,true),(12,true),(13,true),(14,true),(15,false)] mixed (by kernel_rfl) (Chg.refl _ _).drew ?_
    simp only [planOps, List.map_cons, List.map_nil, List.getElem?_cons_zero, List.getElem?_cons_succ, Option.getD_some]
    generalize hops : List.toArray _ = ops
    iterate 15 (refine wpPlan_quiet (v := ?_) rfl (fun _ _ _ h => h) (by intro w1 hS; have s0 := hS.cell_some d2 (fun h => h); have s1 := hS.cell_some kX (fun h => h); clear hS; go_simp; with_reducible rfl) ?_; (simp only [Act.put, List.setIfInBounds_toArray, List.set_cons_zero, List.set_cons_succ]))
    refine wpPlan_loud rfl (fun K hK => ?_)
    have fX := FX.out
    go_simp
    refine hK _ _ (fun h => absurd rfl h) ?_
    clear hK K
    clear hops
    refine wpPlan_nil ?_
    have HI4 : Hid (TIn S (w2.setCell ⟨bX, a, none⟩ (.int .i64 (max hd x))).drew t g s3) := Lib.hid (HI3.out.keep ((Chg.refl NoF _).drew))
    have HC4 : Hid (Chg (fun k => ¬ S k) w (w2.setCell ⟨bX, a, none⟩ (.int .i64 (max hd x))).drew) := Lib.hid ((HC2.out.trans HC3.out).drew)
    clear c0 d2 kX fX HI3 HC3 FX HR2 HVN2
    generalize (World.setCell w2 _ _).drew = w4 at *
    obtain ⟨V4, tag4, ⟨cN4, vN4⟩, h4⟩ := HI4.out
    have hb4 : b < s3.n := by rw [HF3.out.1, ← hN.out]; exact HB.out
    have ha4 : a < s3.n := by rw [HF3.out.1, ← hN.out]; exact HA.out
    have hn4 : 0 < s3.n := by omega
    obtain ⟨_, d1, d2⟩ := (h4.nodeAt vN4).1 b hb4
    obtain ⟨bX4, cX4, vX4, hXc4, _, _, _, _⟩ := h4.hadAt (p := b) hb4 hn4
    have kX := hXc4 a ha4
    obtain ⟨bV4, cV4, vV4, hVc4, _, _, _, _, c3⟩ := h4.servedAt hn4
    have kV := hVc4 a ha4
    have t1 : w4.cell? ⟨t, 1, none⟩ = some (.int .i64 s3.holder) := h4.blk.cell 1
    obtain ⟨_, hf2, hf3, hf4, hf5, hf6⟩ := HF3.out
    rw [vX4] at d2
    rw [HF3.out.1] at d2 c3
    rw [hf2] at t1
    rw [hf3] at d1
    rw [hf4] at kX
    rw [hf5] at kV
    clear hf2 hf3 hf4 hf5 hf6 vX4 vV4 hXc4 hVc4 hn4 ha4 hb4 h4 vN4
    obtain ⟨mx, HMX⟩ : ∃ y, Hid (max hd x = y) := ⟨_, Lib.hid rfl⟩
    rw [HMX.out] at kX hG2
    by_cases h1 : ho = b
    · have hb1 : (ho == (b : Int)) = true := by rw [h1]; simp
      cases iN with
      | true =>
        have hG3 : Hid (s.step a b = s3) := Lib.hid (by rw [hG2.out, if_neg (by simp)])
        clear h1
        go_wp2_with fail
        refine wp_region_plan (Chg NoF w4) 31 [(0,true),(1,true),(2,true),(3,true),(4,true),(5,true),(6,true),(7,true),(8,true),(9,true),(10,true),(11,true),(12,true),(13,true),(14,true),(15,true),(16,true),(17,true),(18,true),(19,true),(20,true),(21,true),(22,true),(23,true),(24,true),(25,true),(26,true),(27,true),(28,true),(29,true),(30,true)] mixed (by kernel_rfl) (Chg.refl _ _).drew ?_
        simp only [planOps, List.map_cons, List.map_nil, List.getElem?_cons_zero, List.getElem?_cons_succ, Option.getD_some]
        generalize hops : List.toArray _ = ops
        iterate 7 (refine wpPlan_quiet (v := ?_) rfl (fun _ _ _ h => h) (by intro w1 hS; have s0 := hS.cell_some t1 (fun h => h); clear hS; go_simp; with_reducible rfl) ?_; (simp only [Act.put, List.setIfInBounds_toArray, List.set_cons_zero, List.set_cons_succ]))
        iterate 5 (refine wpPlan_quietG (v := ?_) (by rw [← hops]; rfl) (fun _ _ _ h => h) (by intro w1 hS; have s0 := hS.cell_some d1 (fun h => h); clear hS; go_simp; with_reducible rfl) ?_; (simp only [Act.put, List.setIfInBounds_toArray, List.set_cons_zero, List.set_cons_succ]))
        iterate 2 (refine wpPlan_quiet (v := ?_) rfl (fun _ _ _ h => h) (by intro w1 hS; clear hS; go_simp; with_reducible rfl) ?_; (simp only [Act.put, List.setIfInBounds_toArray, List.set_cons_zero, List.set_cons_succ]))
        iterate 16 (refine wpPlan_skip (by rw [← hops]; rfl) (fun _ _ _ h => h) ?_; (simp only [Act.put, List.setIfInBounds_toArray, List.set_cons_zero, List.set_cons_succ]))
        (refine wpPlan_quiet (v := ?_) rfl (fun _ _ _ h => h) (by intro w1 hS; clear hS; go_simp; with_reducible rfl) ?_; (simp only [Act.put, List.setIfInBounds_toArray, List.set_cons_zero, List.set_cons_succ]))
        clear hops
        refine wpPlan_nil ?_
        clear t1 d1 d2 kX kV c3 hwr hb1
        go_wp2
        go_ret
        exact ⟨by rw [hE.out]; rfl, by rw [hG3.out]; exact HI4.out.keep ((Chg.refl NoF _).drew), HC4.out.drew⟩
      | false =>
        by_cases h2 : mx = sv + 1
        · rw [h2] at kX
          have hG3 : Hid (s.step a b = ({ s3 with queue := s3.queue ++ [(a : Int)] } : TNet).give) := Lib.hid (by rw [hG2.out, if_pos ⟨h1, rfl, h2⟩])
          clear h1 h2
          go_wp2_with fail
          refine wp_region_plan (Chg NoF w4) 31 [(0,true),(1,true),(2,true),(3,true),(4,true),(5,true),(6,true),(7,true),(8,true),(9,true),(10,true),(11,true),(12,true),(13,true),(14,true),(15,true),(16,true),(17,true),(18,true),(19,true),(20,true),(21,true),(22,true),(23,true),(24,true),(25,true),(26,true),(27,true),(28,true),(29,true),(30,true)] mixed (by kernel_rfl) (Chg.refl _ _).drew ?_
          simp only [planOps, List.map_cons, List.map_nil, List.getElem?_cons_zero, List.getElem?_cons_succ, Option.getD_some]
          generalize hops : List.toArray _ = ops
          iterate 7 (refine wpPlan_quiet (v := ?_) rfl (fun _ _ _ h => h) (by intro w1 hS; have s0 := hS.cell_some t1 (fun h => h); clear hS; go_simp; with_reducible rfl) ?_; (simp only [Act.put, List.setIfInBounds_toArray, List.set_cons_zero, List.set_cons_succ]))
          iterate 5 (refine wpPlan_quietG (v := ?_) (by rw [← hops]; rfl) (fun _ _ _ h => h) (by intro w1 hS; have s0 := hS.cell_some d1 (fun h => h); clear hS; go_simp; with_reducible rfl) ?_; (simp only [Act.put, List.setIfInBounds_toArray, List.set_cons_zero, List.set_cons_succ]))
          iterate 2 (refine wpPlan_quiet (v := ?_) rfl (fun _ _ _ h => h) (by intro w1 hS; clear hS; go_simp; with_reducible rfl) ?_; (simp only [Act.put, List.setIfInBounds_toArray, List.set_cons_zero, List.set_cons_succ]))
          iterate 16 (refine wpPlan_quietG (v := ?_) (by rw [← hops]; rfl) (fun _ _ _ h => h) (by intro w1 hS; have s0 := hS.cell_some d2 (fun h => h); have s1 := hS.cell_some kX (fun h => h); have s2 := hS.cell_some c3 (fun h => h); have s3 := hS.cell_some kV (fun h => h); clear hS; go_simp; with_reducible rfl) ?_; (simp only [Act.put, List.setIfInBounds_toArray, List.set_cons_zero, List.set_cons_succ]))
          (refine wpPlan_quiet (v := ?_) rfl (fun _ _ _ h => h) (by intro w1 hS; clear hS; go_simp; with_reducible rfl) ?_; (simp only [Act.put, List.setIfInBounds_toArray, List.set_cons_zero, List.set_cons_succ]))
          clear hops
          refine wpPlan_nil ?_
          have HI5 : Hid (TIn S w4.drew t g s3) := Lib.hid (HI4.out.keep ((Chg.refl NoF _).drew))
          have HC5 : Hid (Chg (fun k => ¬ S k) w w4.drew) := Lib.hid HC4.out.drew
          clear t1 d1 d2 kX kV c3 hwr hb1 HI4 HC4
          generalize w4.drew = wd at *
          obtain ⟨V5, tag5, ⟨cN5, vN5⟩, h5⟩ := HI5.out
          obtain ⟨hQ, c4, hQb⟩ := h5.queueAt
          have nt : ¬ (V5 .queue).ownBlock = some t := fun hf => (hQb t hf).2.2.1 rfl
          have HNS := Lib.hid (fun b (hb : (V5 .queue).ownBlock = some b) => (hQb b hb).2.1)
          have HTS := Lib.hid h5.tNotS
          have HSETQ := Lib.hid (fun (w1 : World) (hc : Chg (fun b => (V5 .queue).ownBlock = some b) wd w1) => TAt.setQueue h5 hc)
          have HVN5 := Lib.hid vN5
          have f4 := h5.blk.frozen 4
          have tlt := h5.blk.lt
          obtain ⟨M, HM⟩ : ∃ M, Hid (V5 .queue = M) := ⟨_, Lib.hid rfl⟩
          obtain ⟨ql2, HQ3⟩ : ∃ y, Hid (s3.queue = y) := ⟨_, Lib.hid rfl⟩
          have HLEN : Hid (ql2.length < 500) := Lib.hid (by rw [← HQ3.out, HF3.out.2.2.2.2.2]; exact HSA.out.que)
          rw [HM.out] at nt c4 hQ HNS HSETQ
          rw [HQ3.out] at hQ hG3
          obtain ⟨i0, hi, hz0, hz1, hz2⟩ := info_parts infoInt
          clear h5 vN5 hQb
          go_wp2_with (at_builtin; refine wpList_append_lies _ rfl _ _ 29 rfl 0 3 i0 (.int .i64 0) 1 8 Tryd.underlying29 hi hz0 hz1 hz2 rfl (by decide) M ql2.length _ rfl (hQ.alloc _) ⟨wd.heap.size, 0, none⟩ 1 1 [.int .i64 (a : Int)] rfl rfl (World.news_of_block (cs := #[.int .i64 (a : Int)]) (t := 3) (fr := (0, 0)) (heap_alloc_new wd _)) (by simp [Value.oneCell']) (by omega) (by have := HLEN.out; unfold maxLen; omega) (by have := HLEN.out; omega) (by simp) _ rfl ?_; intro g4 cap4 w6 hown4 hgrow4 hat4 hlt4; have hc6 : Chg (fun b => M.ownBlock = some b) wd w6 := ((Chg.refl _ wd).alloc _).grown hgrow4 (fun k hk => .inl hk); have c4' := hc6.cell_some c4 nt; have f4' : w6.frozen? ⟨t, 4, none⟩ = false := by (rw [World.frozen?_of_block (hc6.block t tlt nt)]; exact f4))
          have A6 := HSETQ.out w6 hc6 (.slice (some ⟨g4, 0, none⟩) (ql2.length + 1) cap4) (ql2 ++ [(a : Int)]) (by simpa using hown4) (fun b hb => by
            obtain rfl : g4 = b := by simpa [Value.ownBlock] using hb
            rcases hat4 with h1 | h1
            · exact .inl h1
            · right; rw [h1]; simp)
          have HGV := Lib.hid (give_any S _ t g { s3 with queue := ql2 ++ [(a : Int)] } ⟨_, _, ⟨cN5, by rw [upd_ne V5 _ (by simp)]; exact HVN5.out⟩, A6⟩ (by show (ql2 ++ [(a : Int)]).length < 1000; rw [List.length_append, List.length_singleton]; have := HLEN.out; omega))
          have HC6 : Hid (Chg (fun k => ¬ S k) w (w6.setCell ⟨t, 4, none⟩ (.slice (some ⟨g4, 0, none⟩) (ql2.length + 1) cap4))) := Lib.hid (HC5.out.trans ((hc6.mono fun k _ hk => HNS.out k hk).setCell (.inl HTS.out) _))
          clear A6 hown4 hgrow4 hat4 hlt4 hc6 c4 c4' f4 f4' hQ HSETQ HNS nt tlt
          generalize w6.setCell ⟨t, 4, none⟩ _ = w7 at *
          refine HGV.out.mono ?_
          rintro e w8 ⟨rfl, hin8, hc8⟩
          go_wp2
          go_ret
          exact ⟨by rw [hE.out]; rfl, by rw [hG3.out]; exact hin8, HC6.out.trans hc8⟩
        · have hb2 : (mx == sv + 1) = false := by rw [beq_eq_false_iff_ne]; exact h2
          have hG3 : Hid (s.step a b = s3) := Lib.hid (by rw [hG2.out, if_neg (fun hh => h2 hh.2.2)])
          clear h1 h2
          go_wp2_with fail
          refine wp_region_plan (Chg NoF w4) 31 [(0,true),(1,true),(2,true),(3,true),(4,true),(5,true),(6,true),(7,true),(8,true),(9,true),(10,true),(11,true),(12,true),(13,true),(14,true),(15,true),(16,true),(17,true),(18,true),(19,true),(20,true),(21,true),(22,true),(23,true),(24,true),(25,true),(26,true),(27,true),(28,true),(29,true),(30,true)] mixed (by kernel_rfl) (Chg.refl _ _).drew ?_
          simp only [planOps, List.map_cons, List.map_nil, List.getElem?_cons_zero, List.getElem?_cons_succ, Option.getD_some]
          generalize hops : List.toArray _ = ops
          iterate 7 (refine wpPlan_quiet (v := ?_) rfl (fun _ _ _ h => h) (by intro w1 hS; have s0 := hS.cell_some t1 (fun h => h); clear hS; go_simp; with_reducible rfl) ?_; (simp only [Act.put, List.setIfInBounds_toArray, List.set_cons_zero, List.set_cons_succ]))
          iterate 5 (refine wpPlan_quietG (v := ?_) (by rw [← hops]; rfl) (fun _ _ _ h => h) (by intro w1 hS; have s0 := hS.cell_some d1 (fun h => h); clear hS; go_simp; with_reducible rfl) ?_; (simp only [Act.put, List.setIfInBounds_toArray, List.set_cons_zero, List.set_cons_succ]))
          iterate 2 (refine wpPlan_quiet (v := ?_) rfl (fun _ _ _ h => h) (by intro w1 hS; clear hS; go_simp; with_reducible rfl) ?_; (simp only [Act.put, List.setIfInBounds_toArray, List.set_cons_zero, List.set_cons_succ]))
          iterate 16 (refine wpPlan_quietG (v := ?_) (by rw [← hops]; rfl) (fun _ _ _ h => h) (by intro w1 hS; have s0 := hS.cell_some d2 (fun h => h); have s1 := hS.cell_some kX (fun h => h); have s2 := hS.cell_some c3 (fun h => h); have s3 := hS.cell_some kV (fun h => h); clear hS; go_simp; with_reducible rfl) ?_; (simp only [Act.put, List.setIfInBounds_toArray, List.set_cons_zero, List.set_cons_succ]))
          (refine wpPlan_quiet (v := ?_) rfl (fun _ _ _ h => h) (by intro w1 hS; clear hS; go_simp; with_reducible rfl) ?_; (simp only [Act.put, List.setIfInBounds_toArray, List.set_cons_zero, List.set_cons_succ]))
          clear hops
          refine wpPlan_nil ?_
          clear t1 d1 d2 kX kV c3 hwr hb1 hb2
          go_wp2
          go_ret
          exact ⟨by rw [hE.out]; rfl, by rw [hG3.out]; exact HI4.out.keep ((Chg.refl NoF _).drew), HC4.out.drew⟩
    · have hb1 : (ho == (b : Int)) = false := by rw [beq_eq_false_iff_ne]; exact h1
      have hG3 : Hid (s.step a b = s3) := Lib.hid (by rw [hG2.out, if_neg (fun hh => h1 hh.1)])
      clear h1
      go_wp2_with fail
      refine wp_region_plan (Chg NoF w4) 31 [(0,true),(1,true),(2,true),(3,true),(4,true),(5,true),(6,true),(7,true),(8,true),(9,true),(10,true),(11,true),(12,true),(13,true),(14,true),(15,true),(16,true),(17,true),(18,true),(19,true),(20,true),(21,true),(22,true),(23,true),(24,true),(25,true),(26,true),(27,true),(28,true),(29,true),(30,true)] mixed (by kernel_rfl) (Chg.refl _ _).drew ?_
      simp only [planOps, List.map_cons, List.map_nil, List.getElem?_cons_zero, List.getElem?_cons_succ, Option.getD_some]
      generalize hops : List.toArray _ = ops
      iterate 7 (refine wpPlan_quiet (v := ?_) rfl (fun _ _ _ h => h) (by intro w1 hS; have s0 := hS.cell_some t1 (fun h => h); clear hS; go_simp; with_reducible rfl) ?_; (simp only [Act.put, List.setIfInBounds_toArray, List.set_cons_zero, List.set_cons_succ]))
      iterate 5 (refine wpPlan_skip (by rw [← hops]; rfl) (fun _ _ _ h => h) ?_; (simp only [Act.put, List.setIfInBounds_toArray, List.set_cons_zero, List.set_cons_succ]))
      iterate 2 (refine wpPlan_quiet (v := ?_) rfl (fun _ _ _ h => h) (by intro w1 hS; clear hS; go_simp; with_reducible rfl) ?_; (simp only [Act.put, List.setIfInBounds_toArray, List.set_cons_zero, List.set_cons_succ]))
      iterate 16 (refine wpPlan_skip (by rw [← hops]; rfl) (fun _ _ _ h => h) ?_; (simp only [Act.put, List.setIfInBounds_toArray, List.set_cons_zero, List.set_cons_succ]))
      (refine wpPlan_quiet (v := ?_) rfl (fun _ _ _ h => h) (by intro w1 hS; clear hS; go_simp; with_reducible rfl) ?_; (simp only [Act.put, List.setIfInBounds_toArray, List.set_cons_zero, List.set_cons_succ]))
      clear hops
      refine wpPlan_nil ?_
      clear t1 d1 d2 kX kV c3 hwr hb1
      go_wp2
      go_ret
      exact ⟨by rw [hE.out]; rfl, by rw [hG3.out]; exact HI4.out.keep ((Chg.refl NoF _).drew), HC4.out.drew⟩

end Go.Proofs.YthblnljjhbdejaaDoor
