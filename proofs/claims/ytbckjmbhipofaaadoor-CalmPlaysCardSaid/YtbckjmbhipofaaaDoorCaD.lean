/-
  The net of work and thanks: stopping and stepping.
  Conditions: a net as New made it, with fewer than 1000 messages on each way, and of each node.
-/
import Derived.Test.YtbckjmbhipofaaaDoorCaC
namespace Go.Proofs.YtbckjmbhipofaaaDoor
open Go Go.RowKit

set_option maxHeartbeats 2000000 in
set_option maxRecDepth 100000 in
theorem stop_any (S : Nat → Prop) (w : World) (t g : Nat) (s : CNet) (h : CIn S w t g s) (hs : Sane s) (p : Int) :
    Calls Tryd.prog 10 #[.pointer (some ⟨t, 0, none⟩), .int .i64 p] w (ErrPost S w t g (s.stopErr p) (s.stop p)) := by
  have HIN := Lib.hid h
  have HSA := Lib.hid hs
  have HP := Lib.hid (is_any S w t g s h hs.n0 p)
  have bad : ∀ n : Int, s.stopErr p = n → n ≠ 0 → ErrPost S w t g (s.stopErr p) (s.stop p) (.returned (errV n)) w := fun n hn h0 =>
    ⟨by rw [hn], by unfold CNet.stop; rw [if_neg (by rw [hn]; exact h0)]; exact HIN.out, Chg.refl _ _⟩
  have BAD := Lib.hid bad
  clear bad
  cases hip : s.is p with
  | false =>
    have hE : Hid (s.stopErr p = 1) := Lib.hid (by unfold CNet.stopErr; rw [if_pos hip])
    rw [hip] at HP
    clear h hs hip
    go_enter Tryd.func10, Tryd.ntmps10
    go_wp2_with fail
    refine HP.out.mono ?_
    rintro e w' ⟨rfl, rfl⟩
    go_wp2
    go_ret
    exact BAD.out 1 hE.out (by decide)
  | true =>
  have HIP := Lib.hid hip
  rw [hip] at HP
  obtain ⟨a, rfl, ha⟩ := (s.is_iff p).1 hip
  obtain ⟨V, tag, ⟨cN, vN⟩, h⟩ := h
  obtain ⟨hcell, hfr, htN, hSg, c0⟩ := h.nodeAt vN
  have d0 : w.cell? ⟨g, a * 3, none⟩ = some (.bool (s.works a)) := hcell a 0 ha (by omega)
  have g0 : w.frozen? ⟨g, a * 3, none⟩ = false := hfr _
  have HH := Lib.hid h
  have VN := Lib.hid vN
  have HSG := Lib.hid hSg
  have htg : ¬ t = g := fun e => htN e.symm
  obtain ⟨wk, hWK⟩ : ∃ x, Hid (s.works a = x) := ⟨_, Lib.hid rfl⟩
  obtain ⟨n, hN⟩ : ∃ n, Hid (s.n = n) := ⟨_, Lib.hid rfl⟩
  rw [hWK.out] at d0
  rw [hN.out] at c0 ha
  have ha1 : (a : Int) < n := by omega
  clear hcell hfr h vN hSg hip hs
  cases wk with
  | false =>
    have hE : Hid (s.stopErr a = 7) := Lib.hid (by unfold CNet.stopErr; rw [if_neg (by rw [HIP.out]; simp), Int.toNat_natCast, if_pos hWK.out])
    go_enter Tryd.func10, Tryd.ntmps10
    go_wp2_with fail
    refine HP.out.mono ?_
    rintro e w' ⟨rfl, rfl⟩
    go_wp2
    go_ret
    exact BAD.out 7 hE.out (by decide)
  | true =>
    have hE : Hid (s.stopErr a = 0) := Lib.hid (by unfold CNet.stopErr; rw [if_neg (by rw [HIP.out]; simp), Int.toNat_natCast, if_neg (by rw [hWK.out]; simp)])
    have hG : Hid (s.stop a = s.stop0 a) := Lib.hid (by unfold CNet.stop; rw [if_pos hE.out]; rfl)
    have HS1 := HH.out.setNode VN.out (p := a) (c := 0) (by rw [hN.out]; exact ha) (by omega) (.bool false) { s with works := put1 s.works a false } rfl rfl rfl rfl (by show (Value.bool (put1 s.works a false a)) = _; rw [put1_self]) (fun q d hd hne => by
      unfold CNet.cell
      by_cases e2 : d = 0
      · subst e2
        have hq : q ≠ a := by omega
        show (Value.bool (put1 s.works a false q)) = .bool (s.works q)
        rw [put1_ne _ _ hq]
      · have hd' : d = 1 ∨ d = 2 := by omega
        rcases hd' with rfl | rfl <;> rfl)
    have HSD := Lib.hid (rest_any S _ t g { s with works := put1 s.works a false } ⟨V, tag, ⟨cN, VN.out⟩, HS1⟩ a (by show a < s.n; rw [hN.out]; exact ha) (HSA.out.par a (by rw [hN.out]; exact ha)) (fun q hq => by have := HSA.out.len a q (by rw [hN.out]; exact ha) hq; show (s.ways a q).length < _; omega))
    have HC : Hid (Chg (fun k => ¬ S k) w (w.setCell ⟨g, a * 3, none⟩ (.bool false))) := Lib.hid ((Chg.refl _ _).setCell (.inl HSG.out) _)
    clear HS1
    go_enter Tryd.func10, Tryd.ntmps10
    go_wp2_with fail
    refine HP.out.mono ?_
    rintro e w' ⟨rfl, rfl⟩
    go_wp2_with fail
    refine HSD.out.mono ?_
    rintro e w1 ⟨rfl, hin1, hc1⟩
    go_wp2
    go_ret
    exact ⟨by rw [hE.out]; rfl, by rw [hG.out]; exact hin1, HC.out.trans hc1⟩

/-- A field of a node, and its new value. -/
theorem CAt.setWorks {S : Nat → Prop} {w : World} {t g cap p : Nat} {s : CNet} {V : Ix → Value} {tag : Nat → Option (Option Ix)} (h : CAt S w t s s.n s.n V tag) (hv : V .nodes = .slice (some ⟨g, 0, none⟩) s.n cap) (hp : p < s.n) (b : Bool) :
    CAt S (w.setCell ⟨g, p * 3, none⟩ (.bool b)) t { s with works := put1 s.works p b } s.n s.n V tag :=
  h.setNode hv (p := p) (c := 0) hp (by omega) (.bool b) { s with works := put1 s.works p b } rfl rfl rfl rfl (by show (Value.bool (put1 s.works p b p)) = _; rw [put1_self]) (fun q d hd hne => by
      unfold CNet.cell
      by_cases e2 : d = 0
      · subst e2
        have hq : q ≠ p := by omega
        show (Value.bool (put1 s.works p b q)) = .bool (s.works q)
        rw [put1_ne _ _ hq]
      · have hd' : d = 1 ∨ d = 2 := by omega
        rcases hd' with rfl | rfl <;> rfl)

theorem CAt.setParent {S : Nat → Prop} {w : World} {t g cap p : Nat} {s : CNet} {V : Ix → Value} {tag : Nat → Option (Option Ix)} (h : CAt S w t s s.n s.n V tag) (hv : V .nodes = .slice (some ⟨g, 0, none⟩) s.n cap) (hp : p < s.n) (b : Int) :
    CAt S (w.setCell ⟨g, p * 3 + 1, none⟩ (.int .i64 b)) t { s with parent := put1 s.parent p b } s.n s.n V tag :=
  h.setNode hv (p := p) (c := 1) hp (by omega) (.int .i64 b) { s with parent := put1 s.parent p b } rfl rfl rfl rfl (by show (Value.int .i64 (put1 s.parent p b p)) = _; rw [put1_self]) (fun q d hd hne => by
      unfold CNet.cell
      by_cases e2 : d = 1
      · subst e2
        have hq : q ≠ p := by omega
        show (Value.int .i64 (put1 s.parent p b q)) = .int .i64 (s.parent q)
        rw [put1_ne _ _ hq]
      · have hd' : d = 0 ∨ d = 2 := by omega
        rcases hd' with rfl | rfl <;> rfl)

theorem CAt.setOwed {S : Nat → Prop} {w : World} {t g cap p : Nat} {s : CNet} {V : Ix → Value} {tag : Nat → Option (Option Ix)} (h : CAt S w t s s.n s.n V tag) (hv : V .nodes = .slice (some ⟨g, 0, none⟩) s.n cap) (hp : p < s.n) (b : Int) :
    CAt S (w.setCell ⟨g, p * 3 + 2, none⟩ (.int .i64 b)) t { s with owed := put1 s.owed p b } s.n s.n V tag :=
  h.setNode hv (p := p) (c := 2) hp (by omega) (.int .i64 b) { s with owed := put1 s.owed p b } rfl rfl rfl rfl (by show (Value.int .i64 (put1 s.owed p b p)) = _; rw [put1_self]) (fun q d hd hne => by
      unfold CNet.cell
      by_cases e2 : d = 2
      · subst e2
        have hq : q ≠ p := by omega
        show (Value.int .i64 (put1 s.owed p b q)) = .int .i64 (s.owed q)
        rw [put1_ne _ _ hq]
      · have hd' : d = 0 ∨ d = 1 := by omega
        rcases hd' with rfl | rfl <;> rfl)

set_option maxHeartbeats 4000000 in
set_option maxRecDepth 100000 in
theorem step_any (S : Nat → Prop) (w : World) (t g : Nat) (s : CNet) (h : CIn S w t g s) (hs : Sane s) (p q : Int) :
    Calls Tryd.prog 12 #[.pointer (some ⟨t, 0, none⟩), .int .i64 p, .int .i64 q] w (ErrPost S w t g (s.stepErr p q) (s.step p q)) := by
  have HIN := Lib.hid h
  have HSA := Lib.hid hs
  have HP := Lib.hid (is_any S w t g s h hs.n0 p)
  have HQ := Lib.hid (is_any S w t g s h hs.n0 q)
  have bad : ∀ n : Int, s.stepErr p q = n → n ≠ 0 → ErrPost S w t g (s.stepErr p q) (s.step p q) (.returned (errV n)) w := fun n hn h0 =>
    ⟨by rw [hn], by unfold CNet.step; rw [if_neg (by rw [hn]; exact h0)]; exact HIN.out, Chg.refl _ _⟩
  have BAD := Lib.hid bad
  clear bad
  cases hip : s.is p with
  | false =>
    have hE : Hid (s.stepErr p q = 1) := Lib.hid (by unfold CNet.stepErr; rw [if_pos (.inl hip)])
    rw [hip] at HP
    clear h hs hip
    go_enter Tryd.func12, Tryd.ntmps12
    go_wp2_with fail
    refine HP.out.mono ?_
    rintro e w' ⟨rfl, rfl⟩
    go_wp2
    go_ret
    exact BAD.out 1 hE.out (by decide)
  | true =>
  cases hiq : s.is q with
  | false =>
    have hE : Hid (s.stepErr p q = 1) := Lib.hid (by unfold CNet.stepErr; rw [if_pos (.inr hiq)])
    rw [hip] at HP
    rw [hiq] at HQ
    clear h hs hip hiq
    go_enter Tryd.func12, Tryd.ntmps12
    go_wp2_with fail
    refine HP.out.mono ?_
    rintro e w' ⟨rfl, rfl⟩
    go_wp2_with fail
    refine HQ.out.mono ?_
    rintro e w' ⟨rfl, rfl⟩
    go_wp2
    go_ret
    exact BAD.out 1 hE.out (by decide)
  | true =>
  have HIP := Lib.hid hip
  have HIQ := Lib.hid hiq
  rw [hip] at HP
  rw [hiq] at HQ
  obtain ⟨a, rfl, ha⟩ := (s.is_iff p).1 hip
  obtain ⟨b, rfl, hbn⟩ := (s.is_iff q).1 hiq
  obtain ⟨V, tag, ⟨cN, vN⟩, h⟩ := h
  obtain ⟨gW, cW, gR, cR, vW, vR, cWp, cRq, fR, ltW, ltR⟩ := h.way ha hbn
  have c1 := h.top1
  rw [vW] at c1
  obtain ⟨hM, hMb⟩ := h.msg ha hbn
  have HLEN := Lib.hid (hs.len a b ha hbn)
  obtain ⟨M, HM⟩ : ∃ M, Hid (V (.msg a b) = M) := ⟨_, Lib.hid rfl⟩
  obtain ⟨n, hN⟩ : ∃ n, Hid (s.n = n) := ⟨_, Lib.hid rfl⟩
  obtain ⟨l, HL⟩ : ∃ l, Hid (s.ways a b = l) := ⟨_, Lib.hid rfl⟩
  rw [HL.out] at hM HLEN
  rw [HM.out] at hM cRq
  have HMv := Lib.hid hM
  obtain ⟨aM, cM, hMv⟩ := owns_val hM
  cases l with
  | nil =>
    have hE : Hid (s.stepErr a b = 5) := Lib.hid (by unfold CNet.stepErr; rw [if_neg (by rw [hip, hiq]; simp), Int.toNat_natCast, Int.toNat_natCast, if_pos HL.out])
    rw [hMv] at cRq
    rw [hN.out] at c1 cWp ha hbn
    have ha1 : (a : Int) < n := by omega
    have hb1 : (b : Int) < n := by omega
    clear h vN vW vR fR hM hMb hs hip hiq
    go_enter Tryd.func12, Tryd.ntmps12
    go_wp2_with fail
    refine HP.out.mono ?_
    rintro e w' ⟨rfl, rfl⟩
    go_wp2_with fail
    refine HQ.out.mono ?_
    rintro e w' ⟨rfl, rfl⟩
    go_wp2
    go_ret
    exact BAD.out 5 hE.out (by decide)
  | cons x l =>
    have hE : Hid (s.stepErr a b = 0) := Lib.hid (by unfold CNet.stepErr; rw [if_neg (by rw [hip, hiq]; simp), Int.toNat_natCast, Int.toNat_natCast, if_neg (by rw [HL.out]; simp)])
    have hG : Hid (s.step a b = (s.pop a b).hear a b x) := Lib.hid (by unfold CNet.step; rw [if_pos hE.out, Int.toNat_natCast, Int.toNat_natCast, HL.out]; rfl)
    have hown : Own w (fun _ => 0) 0 3 1 M (x :: l).length ((x :: l).map (.int .i64)) := ⟨hM, fun _ _ => rfl⟩
    obtain ⟨gM, cap, hMv2, _, ltM, hcap, hcmax, _, hMc, _⟩ := hown.form' (by simp)
    have HCM := Lib.hid hcmax
    have cX : w.cell? ⟨gM, 0, none⟩ = some (.int .i64 x) := by rw [hMc 0 (by simp)]; rfl
    have nR : ¬ M.ownBlock = some gR := fun hf => (hMb gR (by rw [HM.out]; exact hf)).2.2.2.2.2 (by rw [vR]; rfl)
    have HRS : Hid (¬ S gR) := Lib.hid (h.notS (i := .row a) (by rw [s.rowsR _ _ V ha]; show (V (.row a)).ownBlock = _; rw [vR]; rfl))
    have HSET := Lib.hid (fun (w1 : World) (hc : Chg (fun b' => (V (.msg a b)).ownBlock = some b') w w1) => h.setWay ha hbn vR hc)
    have HVN := Lib.hid (fun (v : Value) => show upd V (.msg a b) v .nodes = .slice (some ⟨g, 0, none⟩) s.n cN by rw [upd_ne V _ (by simp)]; exact vN)
    have hcap1 : l.length + 1 ≤ cap := hcap
    have hlen : (x :: l).length = l.length + 1 := rfl
    rw [hMv2, hlen] at cRq
    obtain ⟨m, hm⟩ : ∃ m, Hid (l.length = m) := ⟨_, Lib.hid rfl⟩
    have hlb : l.length < 1000 := by have := HLEN.out; rw [hlen] at this; omega
    rw [hm.out] at cRq hcap1 hlb
    rw [hN.out] at c1 cWp
    have HA := Lib.hid ha
    have HB := Lib.hid hbn
    have ha1 : (a : Int) < n := by rw [← hN.out]; omega
    have hb1 : (b : Int) < n := by rw [← hN.out]; omega
    have hm1 : ((m : Int) + 1 == 0) = false := by rw [beq_eq_false_iff_ne]; omega
    have HOWN := Lib.hid hown
    have HMV2 := Lib.hid hMv2
    have HFR := Lib.hid fR
    clear h vN vW vR fR hM hMb hs hip hiq hMc hcap hown hMv hMv2 hlen ha hbn aM cM HLEN
    go_enter Tryd.func12, Tryd.ntmps12
    go_wp2_with fail
    refine HP.out.mono ?_
    rintro e w' ⟨rfl, rfl⟩
    go_wp2_with fail
    refine HQ.out.mono ?_
    rintro e w' ⟨rfl, rfl⟩
    go_wp2_with fail
    refine wp_region_plan (Chg NoF w) 21 [(0,true),(1,true),(2,true),(3,true),(4,true),(5,true),(6,true),(7,true),(8,true),(9,true),(10,true),(11,true),(12,true),(13,true),(14,true),(15,true),(16,true),(17,true),(18,true),(19,false),(20,true),(21,false)] mixed (by kernel_rfl) (Chg.refl _ w).drew ?_
    simp only [planOps, List.map_cons, List.map_nil, List.getElem?_cons_zero, List.getElem?_cons_succ, Option.getD_some]
    generalize List.toArray _ = ops
    iterate 18 (refine wpPlan_quiet (v := ?_) rfl (fun _ _ _ h => h) (by intro w1 hS; have s1 := hS.cell_some c1 (fun h => h); have s2 := hS.cell_some cWp (fun h => h); have s3 := hS.cell_some cRq (fun h => h); clear hS; go_simp; with_reducible rfl) ?_; (simp only [Act.put, List.setIfInBounds_toArray, List.set_cons_zero, List.set_cons_succ]))
    have hm2 : (1 : Int) ≤ (m : Int) + 1 := by omega
    obtain ⟨off, hoff, hoff2⟩ := tail_off gM 1 cap m hcap1
    have HOFF := Lib.hid hoff2
    clear hoff2
    refine wpPlan_quiet (v := ?_) rfl (fun _ _ _ h => h) (by intro w1 hS; go_simp; with_reducible rfl) ?_; (simp only [Act.put, List.setIfInBounds_toArray, List.set_cons_zero, List.set_cons_succ])
    have hrd : Rd (fun _ => True) w.drew (.slice (some ⟨gM, off, none⟩) m (cap - 1)) l := (Rd.tail (HMV2.out ▸ HOWN.out) hm.out HOFF.out trivial _ (by omega)).keep ((Chg.refl NoF w).drew) (fun _ _ h => h)
    have HCL := Lib.hid (clone_any _ _ l w.drew hrd (by rw [hm.out]; omega))
    rw [hm.out] at HCL
    clear hrd
    refine wpPlan_loud rfl (fun K hK => ?_)
    go_simp
    refine HCL.out.mono ?_
    rintro e w1 ⟨v', rfl, hown1, hcc⟩
    obtain ⟨va, vc, rfl⟩ := owns_val hown1
    have hc1 : Chg NoF w w1 := ((Chg.refl NoF w).drew).trans hcc
    refine hK _ _ (fun _ => hc1) ?_
    clear hK K HCL
    (try simp only [Act.put, List.setIfInBounds_toArray, List.set_cons_zero, List.set_cons_succ])
    refine wpPlan_quiet (v := ?_) rfl (fun _ _ _ h => h) (by intro w1 hS; have s2 := hS.cell_some c1 (fun h => h); have s3 := hS.cell_some cWp (fun h => h); clear hS; go_simp; with_reducible rfl) ?_; (simp only [Act.put, List.setIfInBounds_toArray, List.set_cons_zero, List.set_cons_succ])
    refine wpPlan_loud rfl (fun K hK => ?_)
    have s2 := hc1.cell_some cRq (fun h => h)
    have f2 : w1.frozen? ⟨gR, b, none⟩ = false := by rw [World.frozen?_of_block (hc1.block gR ltR (fun h => h))]; exact HFR.out b
    go_simp
    refine hK _ _ (fun h => absurd rfl h) ?_
    clear hK K
    refine wpPlan_nil ?_
    have hR2 := HSET.out w1 (hc1.mono fun _ _ => False.elim) (.slice va m vc) l (by rw [hm.out]; exact owns_zero hown1) (fun q hq => .inr (hown1.lt q hq).1)
    have hvn := HVN.out (.slice va m vc)
    have hpop : s.pop a b = { s with ways := put2 s.ways a b l } := by unfold CNet.pop; rw [HL.out]; rfl
    rw [← hpop] at hR2
    have hc2 : Chg (fun k => ¬ S k) w (w1.setCell ⟨gR, b, none⟩ (.slice va m vc)) := (hc1.mono fun _ _ => False.elim).setCell (.inl HRS.out) _
    clear s2 f2 hown1 hcc hc1 c1 cWp cRq cX HCM hcmax HMV2 HOWN hcap1 hm1 hm2 hoff HOFF HSET HVN HFR
    generalize w1.setCell ⟨gR, b, none⟩ _ = w2 at *
    generalize upd V (.msg a b) _ = V2 at *
    generalize mark tag _ _ = tag2 at *
    have hvn2 : V2 .nodes = .slice (some ⟨g, 0, none⟩) (s.pop a b).n cN := hvn
    have HR2 : Hid (CAt S w2 t (s.pop a b) (s.pop a b).n (s.pop a b).n V2 tag2) := Lib.hid hR2
    obtain ⟨hcell, hfr, htN, hSg, c0⟩ := HR2.out.nodeAt hvn2
    have d0 : w2.cell? ⟨g, b * 3, none⟩ = some (.bool (s.works b)) := hcell b 0 HB.out (by omega)
    have d1 : w2.cell? ⟨g, b * 3 + 1, none⟩ = some (.int .i64 (s.parent b)) := hcell b 1 HB.out (by omega)
    have d2 : w2.cell? ⟨g, b * 3 + 2, none⟩ = some (.int .i64 (s.owed b)) := hcell b 2 HB.out (by omega)
    have g0 : w2.frozen? ⟨g, b * 3, none⟩ = false := hfr _
    have g1 : w2.frozen? ⟨g, b * 3 + 1, none⟩ = false := hfr _
    have g2 : w2.frozen? ⟨g, b * 3 + 2, none⟩ = false := hfr _
    have htg : ¬ t = g := fun e => htN e.symm
    obtain ⟨ho1, ho2⟩ := HSA.out.owed b HB.out
    have HSG := Lib.hid hSg
    have HC2 := Lib.hid hc2
    have HVN2 := Lib.hid hvn2
    have hpn : (s.pop a b).n = n := hN.out
    rw [hpn] at c0
    obtain ⟨wk, hWK⟩ : ∃ x, Hid (s.works b = x) := ⟨_, Lib.hid rfl⟩
    obtain ⟨ow, hOW⟩ : ∃ x, Hid (s.owed b = x) := ⟨_, Lib.hid rfl⟩
    obtain ⟨pa, hPA⟩ : ∃ x, Hid (s.parent b = x) := ⟨_, Lib.hid rfl⟩
    rw [hWK.out] at d0
    rw [hPA.out] at d1
    rw [hOW.out] at d2 ho1 ho2
    have HLN : Hid (∀ p q, p < s.n → q < s.n → ((s.pop a b).ways p q).length < 1000) := Lib.hid (fun p q hp hq => by
      have h1 := HSA.out.len p q hp hq
      show (put2 s.ways a b (s.ways a b).tail p q).length < 1000
      by_cases e : p = a ∧ q = b
      · obtain ⟨rfl, rfl⟩ := e; rw [put2_self, List.length_tail]; omega
      · rw [put2_ne _ _ (by omega)]; exact h1)
    clear hcell hfr hSg hc2 hvn hvn2 hR2 hpop hpn
    by_cases hx2 : x = 2
    · have hG2 : Hid (s.step a b = ({ s.pop a b with owed := put1 s.owed b (s.owed b - 1) } : CNet).rest b) := Lib.hid (by rw [hG.out]; unfold CNet.hear; rw [if_pos hx2]; rfl)
      have HS1 := HR2.out.setOwed HVN2.out HB.out (ow - 1)
      have e1 : ({ s.pop a b with owed := put1 (s.pop a b).owed b (ow - 1) } : CNet) = { s.pop a b with owed := put1 s.owed b (s.owed b - 1) } := by rw [hOW.out]; rfl
      rw [e1] at HS1
      have HSD := Lib.hid (rest_any S _ t g { s.pop a b with owed := put1 s.owed b (s.owed b - 1) } ⟨V2, tag2, ⟨cN, HVN2.out⟩, HS1⟩ b HB.out (HSA.out.par b HB.out) (fun q hq => by have := HLN.out b q HB.out hq; show ((s.pop a b).ways b q).length < _; omega))
      have HC : Hid (Chg (fun k => ¬ S k) w2 (w2.setCell ⟨g, b * 3 + 2, none⟩ (.int .i64 (ow - 1)))) := Lib.hid ((Chg.refl _ _).setCell (.inl HSG.out) _)
      have hxb : (x == 2) = true := by rw [hx2]; rfl
      clear HS1 e1 hx2
      go_wp2_with fail
      refine HSD.out.mono ?_
      rintro e w3 ⟨rfl, hin1, hc1⟩
      go_wp2
      go_ret
      exact ⟨by rw [hE.out]; rfl, by rw [hG2.out]; exact hin1, (HC2.out.trans HC.out).trans hc1⟩
    · have hxb : (x == 2) = false := by rw [beq_eq_false_iff_ne]; exact hx2
      by_cases hpa : pa < 0
      · have hG2 : Hid (s.step a b = { s.pop a b with parent := put1 s.parent b a, works := put1 s.works b true }) := Lib.hid (by
          rw [hG.out]; unfold CNet.hear; rw [if_neg hx2, if_pos (show (s.pop a b).parent b < 0 by show s.parent b < 0; rw [hPA.out]; exact hpa)]; rfl)
        have HS1 := HR2.out.setParent HVN2.out HB.out (a : Int)
        have HS2 := Lib.hid (HS1.setWorks (s := { s.pop a b with parent := put1 (s.pop a b).parent b (a : Int) }) HVN2.out HB.out true)
        have HC : Hid (Chg (fun k => ¬ S k) w2 ((w2.setCell ⟨g, b * 3 + 1, none⟩ (.int .i64 a)).setCell ⟨g, b * 3, none⟩ (.bool true))) := Lib.hid (((Chg.refl _ _).setCell (.inl HSG.out) _).setCell (.inl HSG.out) _)
        clear HS1 hx2
        go_wp2
        go_ret
        exact ⟨by rw [hE.out]; rfl, by rw [hG2.out]; exact ⟨V2, tag2, ⟨cN, HVN2.out⟩, HS2.out⟩, HC2.out.trans HC.out⟩
      · have hG2 : Hid (s.step a b = ({ s.pop a b with works := put1 s.works b true } : CNet).push b a 2) := Lib.hid (by
          rw [hG.out]; unfold CNet.hear; rw [if_neg hx2, if_neg (show ¬ (s.pop a b).parent b < 0 by show ¬ s.parent b < 0; rw [hPA.out]; exact hpa)]; rfl)
        have HS1 := HR2.out.setWorks HVN2.out HB.out true
        have HSD := Lib.hid (send_any S _ t g { s.pop a b with works := put1 s.works b true } ⟨V2, tag2, ⟨cN, HVN2.out⟩, HS1⟩ b a 2 HB.out HA.out (by have := HLN.out b a HB.out HA.out; show ((s.pop a b).ways b a).length < _; omega))
        have HC : Hid (Chg (fun k => ¬ S k) w2 (w2.setCell ⟨g, b * 3, none⟩ (.bool true))) := Lib.hid ((Chg.refl _ _).setCell (.inl HSG.out) _)
        clear HS1 hx2
        go_wp2_with fail
        refine HSD.out.mono ?_
        rintro e w3 ⟨rfl, hin1, hc1⟩
        go_wp2
        go_ret
        exact ⟨by rw [hE.out]; rfl, by rw [hG2.out]; exact hin1, (HC2.out.trans HC.out).trans hc1⟩

end Go.Proofs.YtbckjmbhipofaaaDoor
