/-
  The lock whose token goes from one to the next: leaving.
  Conditions: a net as New made it, behind any deeds.
-/
import Derived.Test.YthblnljjhbdejaaDoorToC
namespace Go.Proofs.YthblnljjhbdejaaDoor
open Go Go.RowKit

theorem enq_len (s : TNet) (p : Nat) : ∀ j, (enqL s p j).length ≤ s.queue.length + j
  | 0 => Nat.le_refl _
  | j + 1 => by
    have := enq_len s p j
    rw [enqL]; split
    · rw [List.length_append, List.length_singleton]; omega
    · omega

/-- The net while the queue is filled. -/
def TNet.enq (s : TNet) (p j : Nat) : TNet := { s with queue := enqL s p j }

set_option maxHeartbeats 4000000 in
set_option maxRecDepth 100000 in
theorem leave_any (S : Nat → Prop) (w : World) (t g : Nat) (s : TNet) (h : TIn S w t g s) (hs : Sane s) (p : Int) :
    Calls Tryd.prog 10 #[.pointer (some ⟨t, 0, none⟩), .int .i64 p] w (ErrPost S w t g (s.leaveErr p) (s.leave p)) := by
  have HIN := Lib.hid h
  have HSA := Lib.hid hs
  have HP := Lib.hid (is_any S w t g s h hs.n0 p)
  have bad : ∀ n : Int, s.leaveErr p = n → n ≠ 0 → ErrPost S w t g (s.leaveErr p) (s.leave p) (.returned (errV n)) w := fun n hn h0 =>
    ⟨by rw [hn], by unfold TNet.leave; rw [if_neg (by rw [hn]; exact h0)]; exact HIN.out, Chg.refl _ _⟩
  have BAD := Lib.hid bad
  clear bad
  cases hip : s.is p with
  | false =>
    have hE : Hid (s.leaveErr p = 1) := Lib.hid (by unfold TNet.leaveErr; rw [if_pos hip])
    rw [hip] at HP
    clear h hs hip
    go_enter Tryd.func10, Tryd.ntmps10
    go_wp2_with fail
    refine HP.out.mono ?_
    rintro e w' ⟨rfl, rfl⟩
    go_wp2
    go_ret
    exact BAD.out 1 hE.out (by decide)
  | true =>
  have HIP := Lib.hid hip
  rw [hip] at HP
  obtain ⟨a, rfl, ha⟩ := (s.is_iff p).1 hip
  obtain ⟨V, tag, ⟨cN, vN⟩, h⟩ := h
  obtain ⟨hcell, hfr, htN, hSg, c0⟩ := h.nodeAt vN
  obtain ⟨_, d1, _⟩ := hcell a ha
  have g1 : w.frozen? ⟨g, a * 3 + 1, none⟩ = false := hfr _
  have HH := Lib.hid h
  have VN := Lib.hid vN
  have HSG := Lib.hid hSg
  have htg : ¬ t = g := fun e => htN e.symm
  obtain ⟨iN, hIN⟩ : ∃ x, Hid (s.inn a = x) := ⟨_, Lib.hid rfl⟩
  obtain ⟨n, hN⟩ : ∃ n, Hid (s.n = n) := ⟨_, Lib.hid rfl⟩
  rw [hIN.out] at d1
  have HA := Lib.hid ha
  have hn4 := hs.n4
  rw [hN.out] at c0 ha hn4
  have ha1 : (a : Int) < n := by omega
  clear hcell hfr h vN hSg hip hs htN
  cases iN with
  | false =>
    have hE : Hid (s.leaveErr a = 7) := Lib.hid (by unfold TNet.leaveErr; rw [if_neg (by rw [HIP.out]; simp), Int.toNat_natCast, if_pos hIN.out])
    go_enter Tryd.func10, Tryd.ntmps10
    go_wp2_with fail
    refine HP.out.mono ?_
    rintro e w' ⟨rfl, rfl⟩
    go_wp2
    go_ret
    exact BAD.out 7 hE.out (by decide)
  | true =>
    have hE : Hid (s.leaveErr a = 0) := Lib.hid (by unfold TNet.leaveErr; rw [if_neg (by rw [HIP.out]; simp), Int.toNat_natCast, if_neg (by rw [hIN.out]; simp)])
    obtain ⟨s1, HS1⟩ : ∃ s1 : TNet, Hid (s.leave1 a = s1) := ⟨_, Lib.hid rfl⟩
    have hG : Hid (s.leave a = (s1.enq a n).give) := Lib.hid (by unfold TNet.leave; rw [if_pos hE.out, Int.toNat_natCast]; unfold TNet.leave0; rw [HS1.out, hN.out]; rfl)
    have HF : Hid (s1.n = n ∧ (∀ q, q < n → s1.had a q = s.had a q ∧ 0 ≤ s1.served q ∧ s1.served q ≤ 1000) ∧ s1.queue.length < 500) := Lib.hid (by
      rw [← HS1.out]
      refine ⟨hN.out, fun q hq => ⟨rfl, ?_⟩, HSA.out.que⟩
      have hq' : q < s.n := by rw [hN.out]; exact hq
      show 0 ≤ put1 s.served a (s.had a a) q ∧ put1 s.served a (s.had a a) q ≤ 1000
      by_cases e : q = a
      · subst e; rw [put1_self]; exact HSA.out.had q q hq' hq'
      · rw [put1_ne _ _ e]; exact HSA.out.srv q hq')
    have A1 := HH.out.setInn VN.out HA.out false
    have HA1 := Lib.hid A1
    have HC1 : Hid (Chg (fun k => ¬ S k) w (w.setCell ⟨g, a * 3 + 1, none⟩ (.bool false))) := Lib.hid ((Chg.refl _ w).setCell (.inl HSG.out) _)
    clear A1
    go_enter Tryd.func10, Tryd.ntmps10
    go_wp2_with fail
    refine HP.out.mono ?_
    rintro e w' ⟨rfl, rfl⟩
    go_wp2_with fail
    clear c0 d1 g1
    generalize World.setCell _ _ _ = w4 at *
    -- the served
    have vN1 := VN.out
    obtain ⟨hcell, hfr, _, _, c0⟩ := HA1.out.nodeAt vN1
    have e2 := (hcell a HA.out).2.2
    obtain ⟨bX, cX, vX, hXc, _, _, _, _⟩ := HA1.out.hadAt HA.out HSA.out.n0
    have kX := hXc a HA.out
    obtain ⟨bV, cV, vV, hVc, hVf, _, hVS, _, c3⟩ := HA1.out.servedAt HSA.out.n0
    have kV := hVc a HA.out
    have fV := hVf a
    rw [vX] at e2
    have e2 : w4.cell? ⟨g, a * 3 + 2, none⟩ = some (.slice (some ⟨bX, 0, none⟩) s.n cX) := e2
    have kX : w4.cell? ⟨bX, a, none⟩ = some (.int .i64 (s.had a a)) := kX
    have c0 : w4.cell? ⟨t, 0, none⟩ = some (.slice (some ⟨g, 0, none⟩) s.n cN) := c0
    have c3 : w4.cell? ⟨t, 3, none⟩ = some (.slice (some ⟨bV, 0, none⟩) s.n cV) := c3
    have kV : w4.cell? ⟨bV, a, none⟩ = some (.int .i64 (s.served a)) := kV
    rw [hN.out] at e2 c0 c3
    have HSV := Lib.hid hVS
    have A2 := TAt.setServed HA1.out vV HA.out (s.had a a)
    have HA2 := Lib.hid A2
    have FV := Lib.hid fV
    clear hcell hfr hXc vX hVc hVf hVS vV vN1 A2 fV
    refine wp_region_plan (Chg NoF w4) 13 [(0,true),(1,true),(2,true),(3,true),(4,true),(5,true),(6,true),(7,true),(8,true),(9,true),(10,true),(11,true),(12,true),(13,false)] mixed (by kernel_rfl) (Chg.refl _ _).drew ?_
    simp only [planOps, List.map_cons, List.map_nil, List.getElem?_cons_zero, List.getElem?_cons_succ, Option.getD_some]
    generalize hops : List.toArray _ = ops
    iterate 13 (refine wpPlan_quiet (v := ?_) rfl (fun _ _ _ h => h) (by intro w1 hS; have s0 := hS.cell_some c0 (fun h => h); have s1 := hS.cell_some e2 (fun h => h); have s2 := hS.cell_some kX (fun h => h); have s3 := hS.cell_some c3 (fun h => h); clear hS; go_simp; with_reducible rfl) ?_; (simp only [Act.put, List.setIfInBounds_toArray, List.set_cons_zero, List.set_cons_succ]))
    refine wpPlan_loud rfl (fun K hK => ?_)
    have fV := FV.out
    go_simp
    refine hK _ _ (fun h => absurd rfl h) ?_
    clear hK K
    clear hops
    refine wpPlan_nil ?_
    have HI0 : Hid (TIn S (w4.setCell ⟨bV, a, none⟩ (.int .i64 (s.had a a))).drew t g (s1.enq a 0)) := Lib.hid (by
      have e1 : s1.enq a 0 = s1 := rfl
      rw [e1, ← HS1.out]
      exact ⟨V, tag, ⟨cN, VN.out⟩, Mem.more HA2.out ((Chg.refl NoF _).drew)⟩)
    have HC0 : Hid (Chg (fun k => ¬ S k) w (w4.setCell ⟨bV, a, none⟩ (.int .i64 (s.had a a))).drew) := Lib.hid ((HC1.out.setCell (.inl HSV.out) _).drew)
    clear c0 e2 kX c3 kV fV HA1 HA2 HC1 FV
    generalize (World.setCell w4 _ _).drew = w5 at *
    obtain ⟨V0, tag0, ⟨cN0, vN0⟩, h0⟩ := HI0.out
    have c0 := (h0.nodeAt vN0).2.2.2.2
    rw [show (s1.enq a 0).n = n from HF.out.1] at c0
    clear h0 vN0
    go_wp2_with fail
    clear c0
    go_loopw [45] (fun i wr => ∃ j : Nat, j ≤ n ∧ i = .int .i64 j ∧ Hid (TIn S wr t g (s1.enq a j)) ∧ Hid (Chg (fun k => ¬ S k) w wr)) (fun i _ => n - (intOf i).toNat)
    case atStart => exact ⟨0, Nat.zero_le _, rfl, HI0, HC0⟩
    case round =>
      obtain ⟨j, hjn, rfl, HI, HC⟩ := hrel
      by_cases hj : j < n
      · have hj1 : (j : Int) < n := by omega
        have HJ : Hid (j + 1 ≤ n) := Lib.hid hj
        obtain ⟨V1, tag1, ⟨cN1, vN1⟩, h1⟩ := HI.out
        have hab : a < (s1.enq a j).n := by show a < s1.n; rw [HF.out.1]; exact ha
        have hjb : j < (s1.enq a j).n := by show j < s1.n; rw [HF.out.1]; exact hj
        have hn0 : 0 < (s1.enq a j).n := by omega
        have hnn : (s1.enq a j).n = n := HF.out.1
        have c0 := (h1.nodeAt vN1).2.2.2.2
        have e2 := ((h1.nodeAt vN1).1 a hab).2.2
        obtain ⟨bX, cX, vX, hXc, _, _, _, _⟩ := h1.hadAt hab hn0
        have kX := hXc j hjb
        obtain ⟨bV, cV, vV, hVc, _, _, _, _, c3⟩ := h1.servedAt hn0
        have kV := hVc j hjb
        obtain ⟨hQ, c4, _⟩ := h1.queueAt
        rw [vX] at e2
        rw [hnn] at c0 e2 c3
        have e2 : wr.cell? ⟨g, a * 3 + 2, none⟩ = some (.slice (some ⟨bX, 0, none⟩) n cX) := e2
        obtain ⟨hd, HHD⟩ : ∃ x, Hid (s1.had a j = x) := ⟨_, Lib.hid rfl⟩
        obtain ⟨sv, HSV2⟩ : ∃ x, Hid (s1.served j = x) := ⟨_, Lib.hid rfl⟩
        rw [show (s1.enq a j).had a j = hd from HHD.out] at kX
        rw [show (s1.enq a j).served j = sv from HSV2.out] at kV
        obtain ⟨_, hs0, hs1⟩ := HF.out.2.1 j hj
        rw [HSV2.out] at hs0 hs1
        have hwr : IntKind.i64.wrap (sv + 1) = sv + 1 := IntWalk.i64_in _ (by omega)
        have HCO := Lib.hid (contains_any (fun _ => True) (V1 .queue) (enqL s1 a j) (j : Int) wr.drew ((Rd.ofOwns hQ (fun _ _ => trivial)).keep ((Chg.refl NoF wr).drew) (fun _ _ h => h)) (by have := enq_len s1 a j; have := HF.out.2.2; omega))
        obtain ⟨qa, qc, hQv⟩ := owns_val hQ
        rw [hQv] at c4 HCO
        obtain ⟨ql, HQL⟩ : ∃ x, Hid ((s1.enq a j).queue.length = x) := ⟨_, Lib.hid rfl⟩
        rw [HQL.out] at c4 HCO
        have HID : Hid (TIn S wr.drew t g (s1.enq a j)) := Lib.hid (HI.out.keep ((Chg.refl NoF wr).drew))
        have HCD : Hid (Chg (fun k => ¬ S k) w wr.drew) := Lib.hid (HC.out.drew)
        clear h1 vN1 hab hjb hn0 hnn vX hXc vV hVc hQ hQv
        by_cases hq : hd = sv + 1
        · rw [hq] at kX
          cases hct : (enqL s1 a j).contains (j : Int) with
          | true =>
            have HI2 : Hid (TIn S wr.drew t g (s1.enq a (j + 1))) := Lib.hid (by
              have : s1.enq a (j + 1) = s1.enq a j := by
                unfold TNet.enq; rw [enqL, if_neg (by rw [hct]; simp)]
              rw [this]; exact HID.out)
            rw [hct] at HCO
            clear hq hct
            go_wp2_with fail
            refine wp_region_plan (Chg NoF wr) 25 [(0,true),(1,true),(2,true),(3,true),(4,true),(5,true),(6,true),(7,true),(8,true),(9,true),(10,true),(11,true),(12,true),(13,true),(14,true),(15,true),(16,true),(17,true),(18,true),(19,true),(20,true),(21,true),(22,false),(23,true),(24,true)] mixed (by kernel_rfl) (Chg.refl _ _).drew ?_
            simp only [planOps, List.map_cons, List.map_nil, List.getElem?_cons_zero, List.getElem?_cons_succ, Option.getD_some]
            generalize hops : List.toArray _ = ops
            iterate 17 (refine wpPlan_quiet (v := ?_) rfl (fun _ _ _ h => h) (by intro w1 hS; have s0 := hS.cell_some e2 (fun h => h); have s1 := hS.cell_some kX (fun h => h); have s2 := hS.cell_some c3 (fun h => h); have s3 := hS.cell_some kV (fun h => h); clear hS; go_simp; with_reducible rfl) ?_; (simp only [Act.put, List.setIfInBounds_toArray, List.set_cons_zero, List.set_cons_succ]))
            iterate 5 (refine wpPlan_quietG (v := ?_) (by rw [← hops]; rfl) (fun _ _ _ h => h) (by intro w1 hS; have s0 := hS.cell_some c4 (fun h => h); clear hS; go_simp; with_reducible rfl) ?_; (simp only [Act.put, List.setIfInBounds_toArray, List.set_cons_zero, List.set_cons_succ]))
            refine wpPlan_loudG (by rw [← hops]; rfl) (fun K hK => ?_)
            go_simp
            refine HCO.out.mono ?_
            rintro e w6 ⟨rfl, rfl⟩
            refine hK _ _ (fun _ => (Chg.refl NoF wr).drew) ?_
            clear hK K
            (try simp only [Act.put, List.setIfInBounds_toArray, List.set_cons_zero, List.set_cons_succ])
            (refine wpPlan_quietG (v := ?_) (by rw [← hops]; rfl) (fun _ _ _ h => h) (by intro w1 hS; clear hS; go_simp; with_reducible rfl) ?_; (simp only [Act.put, List.setIfInBounds_toArray, List.set_cons_zero, List.set_cons_succ]))
            (refine wpPlan_quiet (v := ?_) rfl (fun _ _ _ h => h) (by intro w1 hS; clear hS; go_simp; with_reducible rfl) ?_; (simp only [Act.put, List.setIfInBounds_toArray, List.set_cons_zero, List.set_cons_succ]))
            clear hops
            refine wpPlan_nil ?_
            clear c0 e2 c3 c4 kX kV HCO hwr
            go_wp2
            go_roundw
            case rel => exact ⟨j + 1, HJ.out, by go_num, HI2, HCD⟩
            case measure => have := HJ.out; simp [intOf]; omega
          | false =>
            have HQ2 : Hid (s1.enq a (j + 1) = { s1.enq a j with queue := enqL s1 a j ++ [(j : Int)] }) := Lib.hid (by
              unfold TNet.enq; rw [enqL, if_pos ⟨by rw [HHD.out, HSV2.out]; exact hq, hct⟩])
            rw [hct] at HCO
            clear hq hct
            go_wp2_with fail
            refine wp_region_plan (Chg NoF wr) 25 [(0,true),(1,true),(2,true),(3,true),(4,true),(5,true),(6,true),(7,true),(8,true),(9,true),(10,true),(11,true),(12,true),(13,true),(14,true),(15,true),(16,true),(17,true),(18,true),(19,true),(20,true),(21,true),(22,false),(23,true),(24,true)] mixed (by kernel_rfl) (Chg.refl _ _).drew ?_
            simp only [planOps, List.map_cons, List.map_nil, List.getElem?_cons_zero, List.getElem?_cons_succ, Option.getD_some]
            generalize hops : List.toArray _ = ops
            iterate 17 (refine wpPlan_quiet (v := ?_) rfl (fun _ _ _ h => h) (by intro w1 hS; have s0 := hS.cell_some e2 (fun h => h); have s1 := hS.cell_some kX (fun h => h); have s2 := hS.cell_some c3 (fun h => h); have s3 := hS.cell_some kV (fun h => h); clear hS; go_simp; with_reducible rfl) ?_; (simp only [Act.put, List.setIfInBounds_toArray, List.set_cons_zero, List.set_cons_succ]))
            iterate 5 (refine wpPlan_quietG (v := ?_) (by rw [← hops]; rfl) (fun _ _ _ h => h) (by intro w1 hS; have s0 := hS.cell_some c4 (fun h => h); clear hS; go_simp; with_reducible rfl) ?_; (simp only [Act.put, List.setIfInBounds_toArray, List.set_cons_zero, List.set_cons_succ]))
            refine wpPlan_loudG (by rw [← hops]; rfl) (fun K hK => ?_)
            go_simp
            refine HCO.out.mono ?_
            rintro e w6 ⟨rfl, rfl⟩
            refine hK _ _ (fun _ => (Chg.refl NoF wr).drew) ?_
            clear hK K
            (try simp only [Act.put, List.setIfInBounds_toArray, List.set_cons_zero, List.set_cons_succ])
            (refine wpPlan_quietG (v := ?_) (by rw [← hops]; rfl) (fun _ _ _ h => h) (by intro w1 hS; clear hS; go_simp; with_reducible rfl) ?_; (simp only [Act.put, List.setIfInBounds_toArray, List.set_cons_zero, List.set_cons_succ]))
            (refine wpPlan_quiet (v := ?_) rfl (fun _ _ _ h => h) (by intro w1 hS; clear hS; go_simp; with_reducible rfl) ?_; (simp only [Act.put, List.setIfInBounds_toArray, List.set_cons_zero, List.set_cons_succ]))
            clear hops
            refine wpPlan_nil ?_
            clear c0 e2 c3 c4 kX kV HCO hs0 hs1 hwr HI HC
            generalize wr.drew = wd at *
            obtain ⟨V2, tag2, ⟨cN2, vN2⟩, h2⟩ := HID.out
            obtain ⟨hQ, c4, hQb⟩ := h2.queueAt
            obtain ⟨M, HM⟩ : ∃ M, Hid (V2 .queue = M) := ⟨_, Lib.hid rfl⟩
            have nt : ¬ (V2 .queue).ownBlock = some t := fun hf => (hQb t hf).2.2.1 rfl
            have HNS := Lib.hid (fun b (hb : (V2 .queue).ownBlock = some b) => (hQb b hb).2.1)
            have HTS := Lib.hid h2.tNotS
            have HSETQ := Lib.hid (fun (w1 : World) (hc : Chg (fun b => (V2 .queue).ownBlock = some b) wd w1) => TAt.setQueue h2 hc)
            have HVN2 := Lib.hid vN2
            have f4 := h2.blk.frozen 4
            have tlt := h2.blk.lt
            obtain ⟨ql2, HQ3⟩ : ∃ x, Hid ((s1.enq a j).queue = x) := ⟨_, Lib.hid rfl⟩
            have HQ4 : Hid (enqL s1 a j = ql2) := Lib.hid HQ3.out
            have HLEN : Hid (ql2.length < 1000) := Lib.hid (by rw [← HQ4.out]; have := enq_len s1 a j; have := HF.out.2.2; omega)
            rw [HM.out] at nt c4 hQ HNS HSETQ
            rw [HQ3.out] at hQ
            obtain ⟨i0, hi, hz0, hz1, hz2⟩ := info_parts infoInt
            clear h2 vN2 hQb
            go_wp2_with (at_builtin; refine wpList_append_lies _ rfl _ _ 29 rfl 0 3 i0 (.int .i64 0) 1 8 Tryd.underlying29 hi hz0 hz1 hz2 rfl (by decide) M ql2.length _ rfl (hQ.alloc _) ⟨wd.heap.size, 0, none⟩ 1 1 [.int .i64 (j : Int)] rfl rfl (World.news_of_block (cs := #[.int .i64 (j : Int)]) (t := 3) (fr := (0, 0)) (heap_alloc_new wd _)) (by simp [Value.oneCell']) (by omega) (by have := HLEN.out; unfold maxLen; omega) (by have := HLEN.out; omega) (by simp) _ rfl ?_; intro g4 cap4 w6 hown4 hgrow4 hat4 hlt4; have hc6 : Chg (fun b => M.ownBlock = some b) wd w6 := ((Chg.refl _ wd).alloc _).grown hgrow4 (fun k hk => .inl hk); have c4' := hc6.cell_some c4 nt; have f4' : w6.frozen? ⟨t, 4, none⟩ = false := by (rw [World.frozen?_of_block (hc6.block t tlt nt)]; exact f4))
            have A6 := HSETQ.out w6 hc6 (.slice (some ⟨g4, 0, none⟩) (ql2.length + 1) cap4) (ql2 ++ [(j : Int)]) (by simpa using hown4) (fun b hb => by
              obtain rfl : g4 = b := by simpa [Value.ownBlock] using hb
              rcases hat4 with h1 | h1
              · exact .inl h1
              · right; rw [h1]; simp)
            have HI6 : Hid (TIn S (w6.setCell ⟨t, 4, none⟩ (.slice (some ⟨g4, 0, none⟩) (ql2.length + 1) cap4)) t g (s1.enq a (j + 1))) := Lib.hid (by
              rw [HQ2.out, HQ4.out]
              exact ⟨_, _, ⟨cN2, by rw [upd_ne V2 _ (by simp)]; exact HVN2.out⟩, A6⟩)
            have HC6 : Hid (Chg (fun k => ¬ S k) w (w6.setCell ⟨t, 4, none⟩ (.slice (some ⟨g4, 0, none⟩) (ql2.length + 1) cap4))) := Lib.hid (HCD.out.trans ((hc6.mono fun k _ hk => HNS.out k hk).setCell (.inl HTS.out) _))
            clear A6 hown4 hgrow4 hat4 hlt4 hc6 c4 c4' f4 f4' hQ HSETQ HNS nt tlt
            generalize w6.setCell ⟨t, 4, none⟩ _ = w7 at *
            go_roundw
            case rel => exact ⟨j + 1, HJ.out, by go_num, HI6, HC6⟩
            case measure => have := HJ.out; simp [intOf]; omega
        · have hqb : (hd == sv + 1) = false := by rw [beq_eq_false_iff_ne]; exact hq
          have HI2 : Hid (TIn S wr.drew t g (s1.enq a (j + 1))) := Lib.hid (by
            have : s1.enq a (j + 1) = s1.enq a j := by
              unfold TNet.enq; rw [enqL, if_neg (by rw [HHD.out, HSV2.out]; exact fun hh => hq hh.1)]
            rw [this]; exact HID.out)
          clear hq
          go_wp2_with fail
          refine wp_region_plan (Chg NoF wr) 25 [(0,true),(1,true),(2,true),(3,true),(4,true),(5,true),(6,true),(7,true),(8,true),(9,true),(10,true),(11,true),(12,true),(13,true),(14,true),(15,true),(16,true),(17,true),(18,true),(19,true),(20,true),(21,true),(22,true),(23,true),(24,true)] mixed (by kernel_rfl) (Chg.refl _ _).drew ?_
          simp only [planOps, List.map_cons, List.map_nil, List.getElem?_cons_zero, List.getElem?_cons_succ, Option.getD_some]
          generalize hops : List.toArray _ = ops
          iterate 17 (refine wpPlan_quiet (v := ?_) rfl (fun _ _ _ h => h) (by intro w1 hS; have s0 := hS.cell_some e2 (fun h => h); have s1 := hS.cell_some kX (fun h => h); have s2 := hS.cell_some c3 (fun h => h); have s3 := hS.cell_some kV (fun h => h); clear hS; go_simp; with_reducible rfl) ?_; (simp only [Act.put, List.setIfInBounds_toArray, List.set_cons_zero, List.set_cons_succ]))
          iterate 7 (refine wpPlan_skip (by rw [← hops]; rfl) (fun _ _ _ h => h) ?_; (simp only [Act.put, List.setIfInBounds_toArray, List.set_cons_zero, List.set_cons_succ]))
          (refine wpPlan_quiet (v := ?_) rfl (fun _ _ _ h => h) (by intro w1 hS; clear hS; go_simp; with_reducible rfl) ?_; (simp only [Act.put, List.setIfInBounds_toArray, List.set_cons_zero, List.set_cons_succ]))
          clear hops
          refine wpPlan_nil ?_
          clear c0 e2 c3 c4 kX kV HCO hqb hwr
          go_wp2
          go_roundw
          case rel => exact ⟨j + 1, HJ.out, by go_num, HI2, HCD⟩
          case measure => have := HJ.out; simp [intOf]; omega
      · obtain rfl : j = n := by omega
        have HGV := Lib.hid (give_any S _ t g _ HI.out (by show (enqL s1 a j).length < 1000; have := enq_len s1 a j; have := HF.out.2.2; omega))
        go_wp2_with fail
        refine HGV.out.mono ?_
        rintro e w6 ⟨rfl, hin6, hc6⟩
        go_wp2
        go_ret
        exact ⟨by rw [hE.out]; rfl, by rw [hG.out]; exact hin6, HC.out.trans hc6⟩

end Go.Proofs.YthblnljjhbdejaaDoor
