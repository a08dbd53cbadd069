/-
  The lock for which one asks all others: stepping.
  Conditions: a net as New made it, with at most 4 nodes, and fewer than 1000 messages on each way.
-/
import Derived.Test.YtmkjfiopkmcjcaaDoorGrD
namespace Go.Proofs.YtmkjfiopkmcjcaaDoor
open Go Go.RowKit

theorem or_eval2 : ∀ x : Nat, x < 16 → ∀ i : Nat, i < 4 → bits BinOp.or IntKind.i64 (x : Int) (IntKind.i64.wrap (2 ^ min i 64)) = ((x ||| 2 ^ i : Nat) : Int) := by decide +kernel

set_option maxHeartbeats 4000000 in
set_option maxRecDepth 100000 in
theorem step_any (S : Nat → Prop) (w : World) (t g : Nat) (s : GNet) (h : GIn S w t g s) (hs : Sane s) (p q : Int) :
    Calls Tryd.prog 12 #[.pointer (some ⟨t, 0, none⟩), .int .i64 p, .int .i64 q] w (ErrPost S w t g (s.stepErr p q) (s.step p q)) := by
  have HIN := Lib.hid h
  have HSA := Lib.hid hs
  have HP := Lib.hid (is_any S w t g s h hs.n0 p)
  have HQ := Lib.hid (is_any S w t g s h hs.n0 q)
  have bad : ∀ n : Int, s.stepErr p q = n → n ≠ 0 → ErrPost S w t g (s.stepErr p q) (s.step p q) (.returned (errV n)) w := fun n hn h0 =>
    ⟨by rw [hn], by unfold GNet.step; rw [if_neg (by rw [hn]; exact h0)]; exact HIN.out, Chg.refl _ _⟩
  have BAD := Lib.hid bad
  clear bad
  cases hip : s.is p with
  | false =>
    have hE : Hid (s.stepErr p q = 1) := Lib.hid (by unfold GNet.stepErr; rw [if_pos (.inl hip)])
    rw [hip] at HP
    clear h hs hip
    go_enter Tryd.func12, Tryd.ntmps12
    go_wp2_with fail
    refine HP.out.mono ?_
    rintro e w' ⟨rfl, rfl⟩
    go_wp2
    go_ret
    exact BAD.out 1 hE.out (by decide)
  | true =>
  cases hiq : s.is q with
  | false =>
    have hE : Hid (s.stepErr p q = 1) := Lib.hid (by unfold GNet.stepErr; rw [if_pos (.inr hiq)])
    rw [hip] at HP
    rw [hiq] at HQ
    clear h hs hip hiq
    go_enter Tryd.func12, Tryd.ntmps12
    go_wp2_with fail
    refine HP.out.mono ?_
    rintro e w' ⟨rfl, rfl⟩
    go_wp2_with fail
    refine HQ.out.mono ?_
    rintro e w' ⟨rfl, rfl⟩
    go_wp2
    go_ret
    exact BAD.out 1 hE.out (by decide)
  | true =>
  have HIP := Lib.hid hip
  have HIQ := Lib.hid hiq
  rw [hip] at HP
  rw [hiq] at HQ
  obtain ⟨a, rfl, ha⟩ := (s.is_iff p).1 hip
  obtain ⟨b, rfl, hbn⟩ := (s.is_iff q).1 hiq
  obtain ⟨V, tag, ⟨cN, vN⟩, h⟩ := h
  obtain ⟨gW, cW, gR, cR, vW, vR, cWp, cRq, fR, ltW, ltR⟩ := h.way ha hbn
  have c1 := h.top1
  rw [vW] at c1
  obtain ⟨hM, hMb⟩ := h.msg ha hbn
  have HLEN := Lib.hid (hs.len a b ha hbn)
  obtain ⟨M, HM⟩ : ∃ M, Hid (V (.msg a b) = M) := ⟨_, Lib.hid rfl⟩
  obtain ⟨n, hN⟩ : ∃ n, Hid (s.n = n) := ⟨_, Lib.hid rfl⟩
  obtain ⟨l, HL⟩ : ∃ l, Hid (s.ways a b = l) := ⟨_, Lib.hid rfl⟩
  rw [HL.out] at hM HLEN
  rw [HM.out] at hM cRq
  have HMv := Lib.hid hM
  obtain ⟨aM, cM, hMv⟩ := owns_val hM
  cases l with
  | nil =>
    have hE : Hid (s.stepErr a b = 5) := Lib.hid (by unfold GNet.stepErr; rw [if_neg (by rw [hip, hiq]; simp), Int.toNat_natCast, Int.toNat_natCast, if_pos HL.out])
    rw [hMv] at cRq
    rw [hN.out] at c1 cWp ha hbn
    have ha1 : (a : Int) < n := by omega
    have hb1 : (b : Int) < n := by omega
    clear h vN vW vR fR hM hMb hs hip hiq
    go_enter Tryd.func12, Tryd.ntmps12
    go_wp2_with fail
    refine HP.out.mono ?_
    rintro e w' ⟨rfl, rfl⟩
    go_wp2_with fail
    refine HQ.out.mono ?_
    rintro e w' ⟨rfl, rfl⟩
    go_wp2
    go_ret
    exact BAD.out 5 hE.out (by decide)
  | cons x l =>
    have hE : Hid (s.stepErr a b = 0) := Lib.hid (by unfold GNet.stepErr; rw [if_neg (by rw [hip, hiq]; simp), Int.toNat_natCast, Int.toNat_natCast, if_neg (by rw [HL.out]; simp)])
    have hG : Hid (s.step a b = (s.pop a b).hear a b x) := Lib.hid (by unfold GNet.step; rw [if_pos hE.out, Int.toNat_natCast, Int.toNat_natCast, HL.out]; rfl)
    have hown : Own w (fun _ => 0) 0 58 1 M (x :: l).length ((x :: l).map (.int .i64)) := ⟨hM, fun _ _ => rfl⟩
    obtain ⟨gM, cap, hMv2, _, ltM, hcap, hcmax, _, hMc, _⟩ := hown.form' (by simp)
    have HCM := Lib.hid hcmax
    have cX : w.cell? ⟨gM, 0, none⟩ = some (.int .i64 x) := by rw [hMc 0 (by simp)]; rfl
    have nR : ¬ M.ownBlock = some gR := fun hf => (hMb gR (by rw [HM.out]; exact hf)).2.2.2.2.2 (by rw [vR]; rfl)
    have HRS : Hid (¬ S gR) := Lib.hid (h.notS (i := .row a) (by rw [s.rowsR _ _ V ha]; show (V (.row a)).ownBlock = _; rw [vR]; rfl))
    have HSET := Lib.hid (fun (w1 : World) (hc : Chg (fun b' => (V (.msg a b)).ownBlock = some b') w w1) => h.setWay ha hbn vR hc)
    have HVN := Lib.hid (fun (v : Value) => show upd V (.msg a b) v .nodes = .slice (some ⟨g, 0, none⟩) s.n cN by rw [upd_ne V _ (by simp)]; exact vN)
    have hcap1 : l.length + 1 ≤ cap := hcap
    have hlen : (x :: l).length = l.length + 1 := rfl
    rw [hMv2, hlen] at cRq
    obtain ⟨m, hm⟩ : ∃ m, Hid (l.length = m) := ⟨_, Lib.hid rfl⟩
    have hlb : l.length < 1000 := by have := HLEN.out; rw [hlen] at this; omega
    rw [hm.out] at cRq hcap1 hlb
    rw [hN.out] at c1 cWp
    have HA := Lib.hid ha
    have HB := Lib.hid hbn
    have ha1 : (a : Int) < n := by rw [← hN.out]; omega
    have hb1 : (b : Int) < n := by rw [← hN.out]; omega
    have hm1 : ((m : Int) + 1 == 0) = false := by rw [beq_eq_false_iff_ne]; omega
    have HOWN := Lib.hid hown
    have HMV2 := Lib.hid hMv2
    have HFR := Lib.hid fR
    clear h vN vW vR fR hM hMb hs hip hiq hMc hcap hown hMv hMv2 hlen ha hbn aM cM HLEN
    go_enter Tryd.func12, Tryd.ntmps12
    go_wp2_with fail
    refine HP.out.mono ?_
    rintro e w' ⟨rfl, rfl⟩
    go_wp2_with fail
    refine HQ.out.mono ?_
    rintro e w' ⟨rfl, rfl⟩
    go_wp2_with fail
    refine wp_region_plan (Chg NoF w) 21 [(0,true),(1,true),(2,true),(3,true),(4,true),(5,true),(6,true),(7,true),(8,true),(9,true),(10,true),(11,true),(12,true),(13,true),(14,true),(15,true),(16,true),(17,true),(18,true),(19,false),(20,true),(21,false)] mixed (by kernel_rfl) (Chg.refl _ w).drew ?_
    simp only [planOps, List.map_cons, List.map_nil, List.getElem?_cons_zero, List.getElem?_cons_succ, Option.getD_some]
    generalize List.toArray _ = ops
    iterate 18 (refine wpPlan_quiet (v := ?_) rfl (fun _ _ _ h => h) (by intro w1 hS; have s1 := hS.cell_some c1 (fun h => h); have s2 := hS.cell_some cWp (fun h => h); have s3 := hS.cell_some cRq (fun h => h); clear hS; go_simp; with_reducible rfl) ?_; (simp only [Act.put, List.setIfInBounds_toArray, List.set_cons_zero, List.set_cons_succ]))
    have hm2 : (1 : Int) ≤ (m : Int) + 1 := by omega
    obtain ⟨off, hoff, hoff2⟩ := tail_off gM 1 cap m hcap1
    have HOFF := Lib.hid hoff2
    clear hoff2
    refine wpPlan_quiet (v := ?_) rfl (fun _ _ _ h => h) (by intro w1 hS; go_simp; with_reducible rfl) ?_; (simp only [Act.put, List.setIfInBounds_toArray, List.set_cons_zero, List.set_cons_succ])
    have hrd : Rd (fun _ => True) w.drew (.slice (some ⟨gM, off, none⟩) m (cap - 1)) l := (Rd.tail (HMV2.out ▸ HOWN.out) hm.out HOFF.out trivial _ (by omega)).keep ((Chg.refl NoF w).drew) (fun _ _ h => h)
    have HCL := Lib.hid (clone_any _ _ l w.drew hrd (by rw [hm.out]; omega))
    rw [hm.out] at HCL
    clear hrd
    refine wpPlan_loud rfl (fun K hK => ?_)
    go_simp
    refine HCL.out.mono ?_
    rintro e w1 ⟨v', rfl, hown1, hcc⟩
    obtain ⟨va, vc, rfl⟩ := owns_val hown1
    have hc1 : Chg NoF w w1 := ((Chg.refl NoF w).drew).trans hcc
    refine hK _ _ (fun _ => hc1) ?_
    clear hK K HCL
    (try simp only [Act.put, List.setIfInBounds_toArray, List.set_cons_zero, List.set_cons_succ])
    refine wpPlan_quiet (v := ?_) rfl (fun _ _ _ h => h) (by intro w1 hS; have s2 := hS.cell_some c1 (fun h => h); have s3 := hS.cell_some cWp (fun h => h); clear hS; go_simp; with_reducible rfl) ?_; (simp only [Act.put, List.setIfInBounds_toArray, List.set_cons_zero, List.set_cons_succ])
    refine wpPlan_loud rfl (fun K hK => ?_)
    have s2 := hc1.cell_some cRq (fun h => h)
    have f2 : w1.frozen? ⟨gR, b, none⟩ = false := by rw [World.frozen?_of_block (hc1.block gR ltR (fun h => h))]; exact HFR.out b
    go_simp
    refine hK _ _ (fun h => absurd rfl h) ?_
    clear hK K
    refine wpPlan_nil ?_
    have hR2 := HSET.out w1 (hc1.mono fun _ _ => False.elim) (.slice va m vc) l (by rw [hm.out]; exact owns_zero hown1) (fun q hq => .inr (hown1.lt q hq).1)
    have hvn := HVN.out (.slice va m vc)
    have hpop : s.pop a b = { s with ways := put2 s.ways a b l } := by unfold GNet.pop; rw [HL.out]; rfl
    rw [← hpop] at hR2
    have hc2 : Chg (fun k => ¬ S k) w (w1.setCell ⟨gR, b, none⟩ (.slice va m vc)) := (hc1.mono fun _ _ => False.elim).setCell (.inl HRS.out) _
    clear s2 f2 hown1 hcc hc1 c1 cWp cRq cX HCM hcmax HMV2 HOWN hcap1 hm1 hm2 hoff HOFF HSET HVN HFR
    generalize w1.setCell ⟨gR, b, none⟩ _ = w2 at *
    generalize upd V (.msg a b) _ = V2 at *
    generalize mark tag _ _ = tag2 at *
    have hvn2 : V2 .nodes = .slice (some ⟨g, 0, none⟩) (s.pop a b).n cN := hvn
    have HR2 : Hid (GAt S w2 t (s.pop a b) (s.pop a b).n (s.pop a b).n V2 tag2) := Lib.hid hR2
    obtain ⟨_, hfr, htN, hSg, c0⟩ := HR2.out.nodeAt hvn2
    obtain ⟨d0, d1, d2, d3, d4⟩ := HR2.out.fields hvn2 (p := b) HB.out
    have g1 : w2.frozen? ⟨g, b * 5 + 1, none⟩ = false := hfr _
    have g3 : w2.frozen? ⟨g, b * 5 + 3, none⟩ = false := hfr _
    have g4 : w2.frozen? ⟨g, b * 5 + 4, none⟩ = false := hfr _
    have htg : ¬ t = g := fun e => htN e.symm
    have HSG := Lib.hid hSg
    have HC2 := Lib.hid hc2
    have HVN2 := Lib.hid hvn2
    have hpn : (s.pop a b).n = n := hN.out
    rw [hpn] at c0
    have HN4 : Hid (n ≤ 4) := Lib.hid (by rw [← hN.out]; exact HSA.out.n4)
    have HGB : Hid (s.gr b < 16 ∧ s.wt b < 16 ∧ a < 4) := Lib.hid ⟨sub16 HSA.out.n4 (HSA.out.gr b HB.out), sub16 HSA.out.n4 (HSA.out.wt b HB.out), by have := HA.out; have := HSA.out.n4; omega⟩
    obtain ⟨st, hST⟩ : ∃ x, Hid (s.st b = x) := ⟨_, Lib.hid rfl⟩
    obtain ⟨ck, hCK⟩ : ∃ x, Hid (s.ck b = x) := ⟨_, Lib.hid rfl⟩
    obtain ⟨tm, hTM⟩ : ∃ x, Hid (s.tm b = x) := ⟨_, Lib.hid rfl⟩
    obtain ⟨gr, hGR⟩ : ∃ x, Hid (s.gr b = x) := ⟨_, Lib.hid rfl⟩
    obtain ⟨wt, hWT⟩ : ∃ x, Hid (s.wt b = x) := ⟨_, Lib.hid rfl⟩
    rw [show (s.pop a b).st b = st from hST.out] at d0
    rw [show (s.pop a b).ck b = ck from hCK.out] at d1
    rw [show (s.pop a b).tm b = tm from hTM.out] at d2
    rw [show (s.pop a b).gr b = gr from hGR.out] at d3
    rw [show (s.pop a b).wt b = wt from hWT.out] at d4
    rw [hGR.out, hWT.out] at HGB
    have HLN : Hid (∀ p q, p < s.n → q < s.n → ((s.pop a b).ways p q).length < 1000) := Lib.hid (fun p q hp hq => by
      have h1 := HSA.out.len p q hp hq
      show (put2 s.ways a b (s.ways a b).tail p q).length < 1000
      by_cases e : p = a ∧ q = b
      · obtain ⟨rfl, rfl⟩ := e; rw [put2_self, List.length_tail]; omega
      · rw [put2_ne _ _ (by omega)]; exact h1)
    clear hfr hSg hc2 hvn hvn2 hR2 hpop hpn
    by_cases hx0 : x = 0
    · have hG2 : Hid (s.step a b = ({ s.pop a b with gr := put1 s.gr b (gr ||| 2 ^ a) } : GNet).enter b) := Lib.hid (by rw [hG.out]; unfold GNet.hear; rw [if_pos hx0, ← hGR.out]; rfl)
      have HS1 := HR2.out.setGr HVN2.out HB.out (gr ||| 2 ^ a)
      have HEN := Lib.hid (enter_any S _ t g { s.pop a b with gr := put1 s.gr b (gr ||| 2 ^ a) } ⟨V2, tag2, ⟨cN, HVN2.out⟩, Mem.more HS1 ((Chg.refl NoF _).drew)⟩ HSA.out.n4 b HB.out)
      have HOR := Lib.hid (or_eval2 gr HGB.out.1 a HGB.out.2.2)
      have HC : Hid (Chg (fun k => ¬ S k) w2 (w2.setCell ⟨g, b * 5 + 3, none⟩ (.int .i64 ((gr ||| 2 ^ a : Nat) : Int)))) := Lib.hid ((Chg.refl _ _).setCell (.inl HSG.out) _)
      have hxb : (x == 0) = true := by rw [hx0]; rfl
      clear HS1 hx0
      go_wp2_with fail
      refine wp_region_plan (Chg NoF w2) 9 [(0,true),(1,true),(2,true),(3,true),(4,true),(5,true),(6,true),(7,true),(8,true),(9,false)] mixed (by kernel_rfl) (Chg.refl _ _).drew ?_
      simp only [planOps, List.map_cons, List.map_nil, List.getElem?_cons_zero, List.getElem?_cons_succ, Option.getD_some]
      generalize hops : List.toArray _ = ops
      iterate 9 (refine wpPlan_quiet (v := ?_) rfl (fun _ _ _ h => h) (by intro w1 hS; have s0 := hS.cell_some d3 (fun h => h); clear hS; go_simp; with_reducible rfl) ?_; (simp only [Act.put, List.setIfInBounds_toArray, List.set_cons_zero, List.set_cons_succ]))
      refine wpPlan_loud rfl (fun K hK => ?_)
      go_simp
      rw [HOR.out]
      refine hK _ _ (fun h => absurd rfl h) ?_
      clear hK K
      clear hops
      refine wpPlan_nil ?_
      go_wp2_with fail
      refine HEN.out.mono ?_
      rintro e w3 ⟨rfl, hin1, hc1⟩
      go_wp2
      go_ret
      exact ⟨by rw [hE.out]; rfl, by rw [hG2.out]; exact hin1, (HC2.out.trans (HC.out.drew)).trans hc1⟩
    · have hxb : (x == 0) = false := by rw [beq_eq_false_iff_ne]; exact hx0
      have HX0 := Lib.hid hx0
      have hst : st = 2 ∨ st = 1 ∨ (st ≠ 2 ∧ st ≠ 1) := by omega
      have hti : tm < x ∨ (tm = x ∧ b < a) ∨ (tm = x ∧ ¬ b < a) ∨ (¬ tm < x ∧ tm ≠ x) := by omega
      have A1 := HR2.out.setCk HVN2.out HB.out (max ck x)
      have e4 := (A1.fields HVN2.out (p := b) HB.out).2.2.2.2
      rw [show ({ s.pop a b with ck := put1 (s.pop a b).ck b (max ck x) } : GNet).wt b = wt from hWT.out] at e4
      have eck : ({ s.pop a b with ck := put1 (s.pop a b).ck b (max ck x) } : GNet) = { s.pop a b with ck := put1 s.ck b (max ck x) } := rfl
      have f4 := (A1.nodeAt HVN2.out).2.1 (b * 5 + 4)
      have HA1 := Lib.hid A1
      have HCK2 : Hid (Chg (fun k => ¬ S k) w2 (w2.setCell ⟨g, b * 5 + 1, none⟩ (.int .i64 (max ck x)))) := Lib.hid ((Chg.refl _ _).setCell (.inl HSG.out) _)
      have HE4 := Lib.hid e4
      have HF4 := Lib.hid f4
      clear A1 e4 f4 hx0 eck
      rcases hst with hst | hst | hst <;> rcases hti with hti | hti | hti | hti
      · have hG2 : Hid (s.step a b = { s.pop a b with ck := put1 s.ck b (max ck x), wt := put1 s.wt b (wt ||| 2 ^ a) }) := Lib.hid (by
          rw [hG.out]; unfold GNet.hear; rw [if_neg HX0.out, if_pos (show (s.pop a b).st b = 2 ∨ ((s.pop a b).st b = 1 ∧ (s.pop a b).mine b a x) from Or.inl (hST.out.trans hst)), ← hCK.out, ← hWT.out]; rfl)
        have hs2 : (st == 2) = true := by rw [hst]; rfl
        have ht1 : tm < x := hti
        clear hst hti
        have HOR := Lib.hid (or_eval2 wt HGB.out.2.1 a HGB.out.2.2)
        have HS2 := Lib.hid (fun (w3 : World) (hc : Chg NoF (w2.setCell ⟨g, b * 5 + 1, none⟩ (.int .i64 (max ck x))) w3) => GAt.setWt (Mem.more HA1.out hc) HVN2.out HB.out (wt ||| 2 ^ a))
        go_wp2_with fail
        have e4 := HE4.out
        have f4 := HF4.out
        refine wp_region_plan (Chg NoF _) 9 [(0,true),(1,true),(2,true),(3,true),(4,true),(5,true),(6,true),(7,true),(8,true),(9,false)] mixed (by kernel_rfl) (Chg.refl _ _).drew ?_
        simp only [planOps, List.map_cons, List.map_nil, List.getElem?_cons_zero, List.getElem?_cons_succ, Option.getD_some]
        generalize hops : List.toArray _ = ops
        iterate 9 (refine wpPlan_quiet (v := ?_) rfl (fun _ _ _ h => h) (by intro w1 hS; have s0 := hS.cell_some e4 (fun h => h); clear hS; go_simp; with_reducible rfl) ?_; (simp only [Act.put, List.setIfInBounds_toArray, List.set_cons_zero, List.set_cons_succ]))
        refine wpPlan_loud rfl (fun K hK => ?_)
        go_simp
        rw [HOR.out]
        refine hK _ _ (fun h => absurd rfl h) ?_
        clear hK K
        clear hops
        refine wpPlan_nil ?_
        have HS3 := Lib.hid (HS2.out _ (Chg.refl NoF _))
        have HC3 := Lib.hid ((HCK2.out.setCell (p := ⟨g, b * 5 + 4, none⟩) (.inl HSG.out) (.int .i64 ((wt ||| 2 ^ a : Nat) : Int))).drew)
        clear HS2 e4 f4
        go_wp2
        go_ret
        exact ⟨by rw [hE.out]; rfl, by rw [hG2.out]; exact ⟨V2, tag2, ⟨cN, HVN2.out⟩, Mem.more HS3.out ((Chg.refl NoF _).drew)⟩, HC2.out.trans HC3.out⟩
      · have hG2 : Hid (s.step a b = { s.pop a b with ck := put1 s.ck b (max ck x), wt := put1 s.wt b (wt ||| 2 ^ a) }) := Lib.hid (by
          rw [hG.out]; unfold GNet.hear; rw [if_neg HX0.out, if_pos (show (s.pop a b).st b = 2 ∨ ((s.pop a b).st b = 1 ∧ (s.pop a b).mine b a x) from Or.inl (hST.out.trans hst)), ← hCK.out, ← hWT.out]; rfl)
        have hs2 : (st == 2) = true := by rw [hst]; rfl
        have ht1 : ¬ tm < x := by omega
        have ht2 : (tm == x) = true := by rw [hti.1]; simp
        have ht3 : (b : Int) < a := by omega
        clear hst hti
        have HOR := Lib.hid (or_eval2 wt HGB.out.2.1 a HGB.out.2.2)
        have HS2 := Lib.hid (fun (w3 : World) (hc : Chg NoF (w2.setCell ⟨g, b * 5 + 1, none⟩ (.int .i64 (max ck x))) w3) => GAt.setWt (Mem.more HA1.out hc) HVN2.out HB.out (wt ||| 2 ^ a))
        go_wp2_with fail
        have e4 := HE4.out
        have f4 := HF4.out
        refine wp_region_plan (Chg NoF _) 9 [(0,true),(1,true),(2,true),(3,true),(4,true),(5,true),(6,true),(7,true),(8,true),(9,false)] mixed (by kernel_rfl) (Chg.refl _ _).drew ?_
        simp only [planOps, List.map_cons, List.map_nil, List.getElem?_cons_zero, List.getElem?_cons_succ, Option.getD_some]
        generalize hops : List.toArray _ = ops
        iterate 9 (refine wpPlan_quiet (v := ?_) rfl (fun _ _ _ h => h) (by intro w1 hS; have s0 := hS.cell_some e4 (fun h => h); clear hS; go_simp; with_reducible rfl) ?_; (simp only [Act.put, List.setIfInBounds_toArray, List.set_cons_zero, List.set_cons_succ]))
        refine wpPlan_loud rfl (fun K hK => ?_)
        go_simp
        rw [HOR.out]
        refine hK _ _ (fun h => absurd rfl h) ?_
        clear hK K
        clear hops
        refine wpPlan_nil ?_
        have HS3 := Lib.hid (HS2.out _ (Chg.refl NoF _))
        have HC3 := Lib.hid ((HCK2.out.setCell (p := ⟨g, b * 5 + 4, none⟩) (.inl HSG.out) (.int .i64 ((wt ||| 2 ^ a : Nat) : Int))).drew)
        clear HS2 e4 f4
        go_wp2
        go_ret
        exact ⟨by rw [hE.out]; rfl, by rw [hG2.out]; exact ⟨V2, tag2, ⟨cN, HVN2.out⟩, Mem.more HS3.out ((Chg.refl NoF _).drew)⟩, HC2.out.trans HC3.out⟩
      · have hG2 : Hid (s.step a b = { s.pop a b with ck := put1 s.ck b (max ck x), wt := put1 s.wt b (wt ||| 2 ^ a) }) := Lib.hid (by
          rw [hG.out]; unfold GNet.hear; rw [if_neg HX0.out, if_pos (show (s.pop a b).st b = 2 ∨ ((s.pop a b).st b = 1 ∧ (s.pop a b).mine b a x) from Or.inl (hST.out.trans hst)), ← hCK.out, ← hWT.out]; rfl)
        have hs2 : (st == 2) = true := by rw [hst]; rfl
        have ht1 : ¬ tm < x := by omega
        have ht2 : (tm == x) = true := by rw [hti.1]; simp
        have ht3 : ¬ (b : Int) < a := by omega
        clear hst hti
        have HOR := Lib.hid (or_eval2 wt HGB.out.2.1 a HGB.out.2.2)
        have HS2 := Lib.hid (fun (w3 : World) (hc : Chg NoF (w2.setCell ⟨g, b * 5 + 1, none⟩ (.int .i64 (max ck x))) w3) => GAt.setWt (Mem.more HA1.out hc) HVN2.out HB.out (wt ||| 2 ^ a))
        go_wp2_with fail
        have e4 := HE4.out
        have f4 := HF4.out
        refine wp_region_plan (Chg NoF _) 9 [(0,true),(1,true),(2,true),(3,true),(4,true),(5,true),(6,true),(7,true),(8,true),(9,false)] mixed (by kernel_rfl) (Chg.refl _ _).drew ?_
        simp only [planOps, List.map_cons, List.map_nil, List.getElem?_cons_zero, List.getElem?_cons_succ, Option.getD_some]
        generalize hops : List.toArray _ = ops
        iterate 9 (refine wpPlan_quiet (v := ?_) rfl (fun _ _ _ h => h) (by intro w1 hS; have s0 := hS.cell_some e4 (fun h => h); clear hS; go_simp; with_reducible rfl) ?_; (simp only [Act.put, List.setIfInBounds_toArray, List.set_cons_zero, List.set_cons_succ]))
        refine wpPlan_loud rfl (fun K hK => ?_)
        go_simp
        rw [HOR.out]
        refine hK _ _ (fun h => absurd rfl h) ?_
        clear hK K
        clear hops
        refine wpPlan_nil ?_
        have HS3 := Lib.hid (HS2.out _ (Chg.refl NoF _))
        have HC3 := Lib.hid ((HCK2.out.setCell (p := ⟨g, b * 5 + 4, none⟩) (.inl HSG.out) (.int .i64 ((wt ||| 2 ^ a : Nat) : Int))).drew)
        clear HS2 e4 f4
        go_wp2
        go_ret
        exact ⟨by rw [hE.out]; rfl, by rw [hG2.out]; exact ⟨V2, tag2, ⟨cN, HVN2.out⟩, Mem.more HS3.out ((Chg.refl NoF _).drew)⟩, HC2.out.trans HC3.out⟩
      · have hG2 : Hid (s.step a b = { s.pop a b with ck := put1 s.ck b (max ck x), wt := put1 s.wt b (wt ||| 2 ^ a) }) := Lib.hid (by
          rw [hG.out]; unfold GNet.hear; rw [if_neg HX0.out, if_pos (show (s.pop a b).st b = 2 ∨ ((s.pop a b).st b = 1 ∧ (s.pop a b).mine b a x) from Or.inl (hST.out.trans hst)), ← hCK.out, ← hWT.out]; rfl)
        have hs2 : (st == 2) = true := by rw [hst]; rfl
        have ht1 : ¬ tm < x := by omega
        have ht2 : (tm == x) = false := by rw [beq_eq_false_iff_ne]; exact hti.2
        clear hst hti
        have HOR := Lib.hid (or_eval2 wt HGB.out.2.1 a HGB.out.2.2)
        have HS2 := Lib.hid (fun (w3 : World) (hc : Chg NoF (w2.setCell ⟨g, b * 5 + 1, none⟩ (.int .i64 (max ck x))) w3) => GAt.setWt (Mem.more HA1.out hc) HVN2.out HB.out (wt ||| 2 ^ a))
        go_wp2_with fail
        have e4 := HE4.out
        have f4 := HF4.out
        refine wp_region_plan (Chg NoF _) 9 [(0,true),(1,true),(2,true),(3,true),(4,true),(5,true),(6,true),(7,true),(8,true),(9,false)] mixed (by kernel_rfl) (Chg.refl _ _).drew ?_
        simp only [planOps, List.map_cons, List.map_nil, List.getElem?_cons_zero, List.getElem?_cons_succ, Option.getD_some]
        generalize hops : List.toArray _ = ops
        iterate 9 (refine wpPlan_quiet (v := ?_) rfl (fun _ _ _ h => h) (by intro w1 hS; have s0 := hS.cell_some e4 (fun h => h); clear hS; go_simp; with_reducible rfl) ?_; (simp only [Act.put, List.setIfInBounds_toArray, List.set_cons_zero, List.set_cons_succ]))
        refine wpPlan_loud rfl (fun K hK => ?_)
        go_simp
        rw [HOR.out]
        refine hK _ _ (fun h => absurd rfl h) ?_
        clear hK K
        clear hops
        refine wpPlan_nil ?_
        have HS3 := Lib.hid (HS2.out _ (Chg.refl NoF _))
        have HC3 := Lib.hid ((HCK2.out.setCell (p := ⟨g, b * 5 + 4, none⟩) (.inl HSG.out) (.int .i64 ((wt ||| 2 ^ a : Nat) : Int))).drew)
        clear HS2 e4 f4
        go_wp2
        go_ret
        exact ⟨by rw [hE.out]; rfl, by rw [hG2.out]; exact ⟨V2, tag2, ⟨cN, HVN2.out⟩, Mem.more HS3.out ((Chg.refl NoF _).drew)⟩, HC2.out.trans HC3.out⟩
      · have hG2 : Hid (s.step a b = { s.pop a b with ck := put1 s.ck b (max ck x), wt := put1 s.wt b (wt ||| 2 ^ a) }) := Lib.hid (by
          rw [hG.out]; unfold GNet.hear; rw [if_neg HX0.out, if_pos (show (s.pop a b).st b = 2 ∨ ((s.pop a b).st b = 1 ∧ (s.pop a b).mine b a x) from Or.inr ⟨hST.out.trans hst, Or.inl (by show s.tm b < x; rw [hTM.out]; exact hti)⟩), ← hCK.out, ← hWT.out]; rfl)
        have hs2 : (st == 2) = false := by rw [hst]; rfl
        have hs1 : (st == 1) = true := by rw [hst]; rfl
        have ht1 : tm < x := hti
        clear hst hti
        have HOR := Lib.hid (or_eval2 wt HGB.out.2.1 a HGB.out.2.2)
        have HS2 := Lib.hid (fun (w3 : World) (hc : Chg NoF (w2.setCell ⟨g, b * 5 + 1, none⟩ (.int .i64 (max ck x))) w3) => GAt.setWt (Mem.more HA1.out hc) HVN2.out HB.out (wt ||| 2 ^ a))
        go_wp2_with fail
        have e4 := HE4.out
        have f4 := HF4.out
        refine wp_region_plan (Chg NoF _) 9 [(0,true),(1,true),(2,true),(3,true),(4,true),(5,true),(6,true),(7,true),(8,true),(9,false)] mixed (by kernel_rfl) (Chg.refl _ _).drew ?_
        simp only [planOps, List.map_cons, List.map_nil, List.getElem?_cons_zero, List.getElem?_cons_succ, Option.getD_some]
        generalize hops : List.toArray _ = ops
        iterate 9 (refine wpPlan_quiet (v := ?_) rfl (fun _ _ _ h => h) (by intro w1 hS; have s0 := hS.cell_some e4 (fun h => h); clear hS; go_simp; with_reducible rfl) ?_; (simp only [Act.put, List.setIfInBounds_toArray, List.set_cons_zero, List.set_cons_succ]))
        refine wpPlan_loud rfl (fun K hK => ?_)
        go_simp
        rw [HOR.out]
        refine hK _ _ (fun h => absurd rfl h) ?_
        clear hK K
        clear hops
        refine wpPlan_nil ?_
        have HS3 := Lib.hid (HS2.out _ (Chg.refl NoF _))
        have HC3 := Lib.hid ((HCK2.out.setCell (p := ⟨g, b * 5 + 4, none⟩) (.inl HSG.out) (.int .i64 ((wt ||| 2 ^ a : Nat) : Int))).drew)
        clear HS2 e4 f4
        go_wp2
        go_ret
        exact ⟨by rw [hE.out]; rfl, by rw [hG2.out]; exact ⟨V2, tag2, ⟨cN, HVN2.out⟩, Mem.more HS3.out ((Chg.refl NoF _).drew)⟩, HC2.out.trans HC3.out⟩
      · have hG2 : Hid (s.step a b = { s.pop a b with ck := put1 s.ck b (max ck x), wt := put1 s.wt b (wt ||| 2 ^ a) }) := Lib.hid (by
          rw [hG.out]; unfold GNet.hear; rw [if_neg HX0.out, if_pos (show (s.pop a b).st b = 2 ∨ ((s.pop a b).st b = 1 ∧ (s.pop a b).mine b a x) from Or.inr ⟨hST.out.trans hst, Or.inr ⟨hTM.out.trans hti.1, hti.2⟩⟩), ← hCK.out, ← hWT.out]; rfl)
        have hs2 : (st == 2) = false := by rw [hst]; rfl
        have hs1 : (st == 1) = true := by rw [hst]; rfl
        have ht1 : ¬ tm < x := by omega
        have ht2 : (tm == x) = true := by rw [hti.1]; simp
        have ht3 : (b : Int) < a := by omega
        clear hst hti
        have HOR := Lib.hid (or_eval2 wt HGB.out.2.1 a HGB.out.2.2)
        have HS2 := Lib.hid (fun (w3 : World) (hc : Chg NoF (w2.setCell ⟨g, b * 5 + 1, none⟩ (.int .i64 (max ck x))) w3) => GAt.setWt (Mem.more HA1.out hc) HVN2.out HB.out (wt ||| 2 ^ a))
        go_wp2_with fail
        have e4 := HE4.out
        have f4 := HF4.out
        refine wp_region_plan (Chg NoF _) 9 [(0,true),(1,true),(2,true),(3,true),(4,true),(5,true),(6,true),(7,true),(8,true),(9,false)] mixed (by kernel_rfl) (Chg.refl _ _).drew ?_
        simp only [planOps, List.map_cons, List.map_nil, List.getElem?_cons_zero, List.getElem?_cons_succ, Option.getD_some]
        generalize hops : List.toArray _ = ops
        iterate 9 (refine wpPlan_quiet (v := ?_) rfl (fun _ _ _ h => h) (by intro w1 hS; have s0 := hS.cell_some e4 (fun h => h); clear hS; go_simp; with_reducible rfl) ?_; (simp only [Act.put, List.setIfInBounds_toArray, List.set_cons_zero, List.set_cons_succ]))
        refine wpPlan_loud rfl (fun K hK => ?_)
        go_simp
        rw [HOR.out]
        refine hK _ _ (fun h => absurd rfl h) ?_
        clear hK K
        clear hops
        refine wpPlan_nil ?_
        have HS3 := Lib.hid (HS2.out _ (Chg.refl NoF _))
        have HC3 := Lib.hid ((HCK2.out.setCell (p := ⟨g, b * 5 + 4, none⟩) (.inl HSG.out) (.int .i64 ((wt ||| 2 ^ a : Nat) : Int))).drew)
        clear HS2 e4 f4
        go_wp2
        go_ret
        exact ⟨by rw [hE.out]; rfl, by rw [hG2.out]; exact ⟨V2, tag2, ⟨cN, HVN2.out⟩, Mem.more HS3.out ((Chg.refl NoF _).drew)⟩, HC2.out.trans HC3.out⟩
      · have hno : ¬ ((s.pop a b).st b = 2 ∨ ((s.pop a b).st b = 1 ∧ (s.pop a b).mine b a x)) := fun hh => by
            rcases hh with hh | ⟨_, hh⟩
            · have h1 : s.st b = 2 := hh
              have h2 := hST.out; omega
            · have hh : s.tm b < x ∨ (s.tm b = x ∧ b < a) := hh
              have h2 := hTM.out; omega
        have hG2 : Hid (s.step a b = ({ s.pop a b with ck := put1 s.ck b (max ck x) } : GNet).push b a 0) := Lib.hid (by
          rw [hG.out]; unfold GNet.hear; rw [if_neg HX0.out, if_neg hno, ← hCK.out]; rfl)
        clear hno
        have hs2 : (st == 2) = false := by rw [hst]; rfl
        have hs1 : (st == 1) = true := by rw [hst]; rfl
        have ht1 : ¬ tm < x := by omega
        have ht2 : (tm == x) = true := by rw [hti.1]; simp
        have ht3 : ¬ (b : Int) < a := by omega
        clear hst hti
        have HSD := Lib.hid (send_any S _ t g { s.pop a b with ck := put1 s.ck b (max ck x) } ⟨V2, tag2, ⟨cN, HVN2.out⟩, HA1.out⟩ b a 0 HB.out HA.out (by have := HLN.out b a HB.out HA.out; show ((s.pop a b).ways b a).length < _; omega))
        go_wp2_with fail
        refine HSD.out.mono ?_
        rintro e w3 ⟨rfl, hin1, hc1⟩
        go_wp2
        go_ret
        exact ⟨by rw [hE.out]; rfl, by rw [hG2.out]; exact hin1, (HC2.out.trans HCK2.out).trans hc1⟩
      · have hno : ¬ ((s.pop a b).st b = 2 ∨ ((s.pop a b).st b = 1 ∧ (s.pop a b).mine b a x)) := fun hh => by
            rcases hh with hh | ⟨_, hh⟩
            · have h1 : s.st b = 2 := hh
              have h2 := hST.out; omega
            · have hh : s.tm b < x ∨ (s.tm b = x ∧ b < a) := hh
              have h2 := hTM.out; omega
        have hG2 : Hid (s.step a b = ({ s.pop a b with ck := put1 s.ck b (max ck x) } : GNet).push b a 0) := Lib.hid (by
          rw [hG.out]; unfold GNet.hear; rw [if_neg HX0.out, if_neg hno, ← hCK.out]; rfl)
        clear hno
        have hs2 : (st == 2) = false := by rw [hst]; rfl
        have hs1 : (st == 1) = true := by rw [hst]; rfl
        have ht1 : ¬ tm < x := by omega
        have ht2 : (tm == x) = false := by rw [beq_eq_false_iff_ne]; exact hti.2
        clear hst hti
        have HSD := Lib.hid (send_any S _ t g { s.pop a b with ck := put1 s.ck b (max ck x) } ⟨V2, tag2, ⟨cN, HVN2.out⟩, HA1.out⟩ b a 0 HB.out HA.out (by have := HLN.out b a HB.out HA.out; show ((s.pop a b).ways b a).length < _; omega))
        go_wp2_with fail
        refine HSD.out.mono ?_
        rintro e w3 ⟨rfl, hin1, hc1⟩
        go_wp2
        go_ret
        exact ⟨by rw [hE.out]; rfl, by rw [hG2.out]; exact hin1, (HC2.out.trans HCK2.out).trans hc1⟩
      · have hno : ¬ ((s.pop a b).st b = 2 ∨ ((s.pop a b).st b = 1 ∧ (s.pop a b).mine b a x)) := fun hh => by rcases hh with hh | hh; exact hst.1 (hST.out.symm.trans hh); exact hst.2 (hST.out.symm.trans hh.1)
        have hG2 : Hid (s.step a b = ({ s.pop a b with ck := put1 s.ck b (max ck x) } : GNet).push b a 0) := Lib.hid (by
          rw [hG.out]; unfold GNet.hear; rw [if_neg HX0.out, if_neg hno, ← hCK.out]; rfl)
        clear hno
        have hs2 : (st == 2) = false := by rw [beq_eq_false_iff_ne]; exact hst.1
        have hs1 : (st == 1) = false := by rw [beq_eq_false_iff_ne]; exact hst.2
        have ht1 : tm < x := hti
        clear hst hti
        have HSD := Lib.hid (send_any S _ t g { s.pop a b with ck := put1 s.ck b (max ck x) } ⟨V2, tag2, ⟨cN, HVN2.out⟩, HA1.out⟩ b a 0 HB.out HA.out (by have := HLN.out b a HB.out HA.out; show ((s.pop a b).ways b a).length < _; omega))
        go_wp2_with fail
        refine HSD.out.mono ?_
        rintro e w3 ⟨rfl, hin1, hc1⟩
        go_wp2
        go_ret
        exact ⟨by rw [hE.out]; rfl, by rw [hG2.out]; exact hin1, (HC2.out.trans HCK2.out).trans hc1⟩
      · have hno : ¬ ((s.pop a b).st b = 2 ∨ ((s.pop a b).st b = 1 ∧ (s.pop a b).mine b a x)) := fun hh => by rcases hh with hh | hh; exact hst.1 (hST.out.symm.trans hh); exact hst.2 (hST.out.symm.trans hh.1)
        have hG2 : Hid (s.step a b = ({ s.pop a b with ck := put1 s.ck b (max ck x) } : GNet).push b a 0) := Lib.hid (by
          rw [hG.out]; unfold GNet.hear; rw [if_neg HX0.out, if_neg hno, ← hCK.out]; rfl)
        clear hno
        have hs2 : (st == 2) = false := by rw [beq_eq_false_iff_ne]; exact hst.1
        have hs1 : (st == 1) = false := by rw [beq_eq_false_iff_ne]; exact hst.2
        have ht1 : ¬ tm < x := by omega
        have ht2 : (tm == x) = true := by rw [hti.1]; simp
        have ht3 : (b : Int) < a := by omega
        clear hst hti
        have HSD := Lib.hid (send_any S _ t g { s.pop a b with ck := put1 s.ck b (max ck x) } ⟨V2, tag2, ⟨cN, HVN2.out⟩, HA1.out⟩ b a 0 HB.out HA.out (by have := HLN.out b a HB.out HA.out; show ((s.pop a b).ways b a).length < _; omega))
        go_wp2_with fail
        refine HSD.out.mono ?_
        rintro e w3 ⟨rfl, hin1, hc1⟩
        go_wp2
        go_ret
        exact ⟨by rw [hE.out]; rfl, by rw [hG2.out]; exact hin1, (HC2.out.trans HCK2.out).trans hc1⟩
      · have hno : ¬ ((s.pop a b).st b = 2 ∨ ((s.pop a b).st b = 1 ∧ (s.pop a b).mine b a x)) := fun hh => by rcases hh with hh | hh; exact hst.1 (hST.out.symm.trans hh); exact hst.2 (hST.out.symm.trans hh.1)
        have hG2 : Hid (s.step a b = ({ s.pop a b with ck := put1 s.ck b (max ck x) } : GNet).push b a 0) := Lib.hid (by
          rw [hG.out]; unfold GNet.hear; rw [if_neg HX0.out, if_neg hno, ← hCK.out]; rfl)
        clear hno
        have hs2 : (st == 2) = false := by rw [beq_eq_false_iff_ne]; exact hst.1
        have hs1 : (st == 1) = false := by rw [beq_eq_false_iff_ne]; exact hst.2
        have ht1 : ¬ tm < x := by omega
        have ht2 : (tm == x) = true := by rw [hti.1]; simp
        have ht3 : ¬ (b : Int) < a := by omega
        clear hst hti
        have HSD := Lib.hid (send_any S _ t g { s.pop a b with ck := put1 s.ck b (max ck x) } ⟨V2, tag2, ⟨cN, HVN2.out⟩, HA1.out⟩ b a 0 HB.out HA.out (by have := HLN.out b a HB.out HA.out; show ((s.pop a b).ways b a).length < _; omega))
        go_wp2_with fail
        refine HSD.out.mono ?_
        rintro e w3 ⟨rfl, hin1, hc1⟩
        go_wp2
        go_ret
        exact ⟨by rw [hE.out]; rfl, by rw [hG2.out]; exact hin1, (HC2.out.trans HCK2.out).trans hc1⟩
      · have hno : ¬ ((s.pop a b).st b = 2 ∨ ((s.pop a b).st b = 1 ∧ (s.pop a b).mine b a x)) := fun hh => by rcases hh with hh | hh; exact hst.1 (hST.out.symm.trans hh); exact hst.2 (hST.out.symm.trans hh.1)
        have hG2 : Hid (s.step a b = ({ s.pop a b with ck := put1 s.ck b (max ck x) } : GNet).push b a 0) := Lib.hid (by
          rw [hG.out]; unfold GNet.hear; rw [if_neg HX0.out, if_neg hno, ← hCK.out]; rfl)
        clear hno
        have hs2 : (st == 2) = false := by rw [beq_eq_false_iff_ne]; exact hst.1
        have hs1 : (st == 1) = false := by rw [beq_eq_false_iff_ne]; exact hst.2
        have ht1 : ¬ tm < x := by omega
        have ht2 : (tm == x) = false := by rw [beq_eq_false_iff_ne]; exact hti.2
        clear hst hti
        have HSD := Lib.hid (send_any S _ t g { s.pop a b with ck := put1 s.ck b (max ck x) } ⟨V2, tag2, ⟨cN, HVN2.out⟩, HA1.out⟩ b a 0 HB.out HA.out (by have := HLN.out b a HB.out HA.out; show ((s.pop a b).ways b a).length < _; omega))
        go_wp2_with fail
        refine HSD.out.mono ?_
        rintro e w3 ⟨rfl, hin1, hc1⟩
        go_wp2
        go_ret
        exact ⟨by rw [hE.out]; rfl, by rw [hG2.out]; exact hin1, (HC2.out.trans HCK2.out).trans hc1⟩

end Go.Proofs.YtmkjfiopkmcjcaaDoor
