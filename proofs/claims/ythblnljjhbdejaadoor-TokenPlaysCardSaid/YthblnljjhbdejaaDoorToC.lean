/-
  The lock whose token goes from one to the next: asking.
  Conditions: a net as New made it, behind any deeds.
-/
import Derived.Test.YthblnljjhbdejaaDoorToB
namespace Go.Proofs.YthblnljjhbdejaaDoor
open Go Go.RowKit

theorem bcast_zero (s : TNet) (p : Nat) (m : Int) : s.bcast p m 0 = s := by
  unfold TNet.bcast
  have : (fun a b => if a = p ∧ b < 0 ∧ b ≠ p then s.ways a b ++ [m] else s.ways a b) = s.ways := by
    funext a b; rw [if_neg (by omega)]
  rw [this]

theorem bcast_skip (s : TNet) (p : Nat) (m : Int) : s.bcast p m (p + 1) = s.bcast p m p := by
  unfold TNet.bcast
  have : (fun a b => if a = p ∧ b < p + 1 ∧ b ≠ p then s.ways a b ++ [m] else s.ways a b) = fun a b => if a = p ∧ b < p ∧ b ≠ p then s.ways a b ++ [m] else s.ways a b := by
    funext a b
    have : (a = p ∧ b < p + 1 ∧ b ≠ p) ↔ (a = p ∧ b < p ∧ b ≠ p) := by omega
    simp only [this]
  rw [this]

theorem bcast_push (s : TNet) (p : Nat) (m : Int) {j : Nat} (h : j ≠ p) : ({ s.bcast p m j with ways := put2 (s.bcast p m j).ways p j (s.ways p j ++ [m]) } : TNet) = s.bcast p m (j + 1) := by
  unfold TNet.bcast
  have : (put2 (fun a b => if a = p ∧ b < j ∧ b ≠ p then s.ways a b ++ [m] else s.ways a b) p j (s.ways p j ++ [m])) = fun a b => if a = p ∧ b < j + 1 ∧ b ≠ p then s.ways a b ++ [m] else s.ways a b := by
    funext a b
    unfold put2
    by_cases e : a = p ∧ b = j
    · obtain ⟨rfl, rfl⟩ := e
      rw [if_pos ⟨rfl, rfl⟩, if_pos ⟨rfl, by omega, h⟩]
    · rw [if_neg e]
      have : (a = p ∧ b < j + 1 ∧ b ≠ p) ↔ (a = p ∧ b < j ∧ b ≠ p) := by omega
      simp only [this]
  rw [this]

theorem bcast_way (s : TNet) (p : Nat) (m : Int) (j : Nat) : (s.bcast p m j).ways p j = s.ways p j := by
  show (if p = p ∧ j < j ∧ j ≠ p then _ else _) = _
  rw [if_neg (by omega)]

set_option maxHeartbeats 4000000 in
set_option maxRecDepth 100000 in
theorem ask_any (S : Nat → Prop) (w : World) (t g : Nat) (s : TNet) (h : TIn S w t g s) (hs : Sane s) (p : Int) :
    Calls Tryd.prog 8 #[.pointer (some ⟨t, 0, none⟩), .int .i64 p] w (ErrPost S w t g (s.askErr p) (s.ask p)) := by
  have HIN := Lib.hid h
  have HSA := Lib.hid hs
  have HP := Lib.hid (is_any S w t g s h hs.n0 p)
  have bad : ∀ n : Int, s.askErr p = n → n ≠ 0 → ErrPost S w t g (s.askErr p) (s.ask p) (.returned (errV n)) w := fun n hn h0 =>
    ⟨by rw [hn], by unfold TNet.ask; rw [if_neg (by rw [hn]; exact h0)]; exact HIN.out, Chg.refl _ _⟩
  have BAD := Lib.hid bad
  clear bad
  cases hip : s.is p with
  | false =>
    have hE : Hid (s.askErr p = 1) := Lib.hid (by unfold TNet.askErr; rw [if_pos hip])
    rw [hip] at HP
    clear h hs hip
    go_enter Tryd.func8, Tryd.ntmps8
    go_wp2_with fail
    refine HP.out.mono ?_
    rintro e w' ⟨rfl, rfl⟩
    go_wp2
    go_ret
    exact BAD.out 1 hE.out (by decide)
  | true =>
  have HIP := Lib.hid hip
  rw [hip] at HP
  obtain ⟨a, rfl, ha⟩ := (s.is_iff p).1 hip
  obtain ⟨V, tag, ⟨cN, vN⟩, h⟩ := h
  obtain ⟨hcell, hfr, htN, hSg, c0⟩ := h.nodeAt vN
  obtain ⟨d0, d1, d2⟩ := hcell a ha
  obtain ⟨bH, cH, vH, hHc, hHf, hbt, hbS, hbg⟩ := h.hadAt ha hs.n0
  have hgb : ¬ g = bH := fun e => hbg (by rw [vN, e]; rfl)
  have hbg' : ¬ bH = g := fun e => hgb e.symm
  have htb : ¬ t = bH := fun e => hbt e.symm
  have k0 := hHc a ha
  have kf : w.frozen? ⟨bH, a, none⟩ = false := hHf a
  rw [vH] at d2
  have c1 : w.cell? ⟨t, 1, none⟩ = some (.int .i64 s.holder) := h.blk.cell 1
  have g0 : w.frozen? ⟨g, a * 3, none⟩ = false := hfr _
  have g1 : w.frozen? ⟨g, a * 3 + 1, none⟩ = false := hfr _
  have HH := Lib.hid h
  have VN := Lib.hid vN
  have VH := Lib.hid vH
  have HSG := Lib.hid hSg
  have HSB := Lib.hid hbS
  have htg : ¬ t = g := fun e => htN e.symm
  obtain ⟨hh1, hh2⟩ := hs.had a a ha ha
  obtain ⟨aK, hAS⟩ : ∃ x, Hid (s.asks a = x) := ⟨_, Lib.hid rfl⟩
  obtain ⟨iN, hIN⟩ : ∃ x, Hid (s.inn a = x) := ⟨_, Lib.hid rfl⟩
  obtain ⟨hd, hHD⟩ : ∃ x, Hid (s.had a a = x) := ⟨_, Lib.hid rfl⟩
  obtain ⟨ho, hHO⟩ : ∃ x, Hid (s.holder = x) := ⟨_, Lib.hid rfl⟩
  obtain ⟨n, hN⟩ : ∃ n, Hid (s.n = n) := ⟨_, Lib.hid rfl⟩
  rw [hAS.out] at d0
  rw [hIN.out] at d1
  rw [hHD.out] at k0 hh1 hh2
  rw [hHO.out] at c1
  have HA := Lib.hid ha
  have hn4 := hs.n4
  rw [hN.out] at c0 ha d2 hn4
  have ha1 : (a : Int) < n := by omega
  clear hcell hfr h vN hSg hip hs vH hHc hHf hbt hbS hbg htN
  have hcase : aK = true ∨ (aK = false ∧ iN = true) ∨ (aK = false ∧ iN = false) := by cases aK <;> cases iN <;> simp
  rcases hcase with rfl | ⟨rfl, rfl⟩ | ⟨rfl, rfl⟩
  · have hE : Hid (s.askErr a = 7) := Lib.hid (by unfold TNet.askErr; rw [if_neg (by rw [HIP.out]; simp), Int.toNat_natCast, if_pos (.inl hAS.out)])
    go_enter Tryd.func8, Tryd.ntmps8
    go_wp2_with fail
    refine HP.out.mono ?_
    rintro e w' ⟨rfl, rfl⟩
    go_wp2
    go_ret
    exact BAD.out 7 hE.out (by decide)
  · have hE : Hid (s.askErr a = 7) := Lib.hid (by unfold TNet.askErr; rw [if_neg (by rw [HIP.out]; simp), Int.toNat_natCast, if_pos (.inr hIN.out)])
    go_enter Tryd.func8, Tryd.ntmps8
    go_wp2_with fail
    refine HP.out.mono ?_
    rintro e w' ⟨rfl, rfl⟩
    go_wp2
    go_ret
    exact BAD.out 7 hE.out (by decide)
  · by_cases h1 : 1000 ≤ hd
    · have hE : Hid (s.askErr a = 4) := Lib.hid (by unfold TNet.askErr; rw [if_neg (by rw [HIP.out]; simp), Int.toNat_natCast, if_neg (by rw [hAS.out, hIN.out]; simp), if_pos (by rw [hHD.out]; exact h1)])
      go_enter Tryd.func8, Tryd.ntmps8
      go_wp2_with fail
      refine HP.out.mono ?_
      rintro e w' ⟨rfl, rfl⟩
      go_wp2
      go_ret
      exact BAD.out 4 hE.out (by decide)
    · have hE : Hid (s.askErr a = 0) := Lib.hid (by unfold TNet.askErr; rw [if_neg (by rw [HIP.out]; simp), Int.toNat_natCast, if_neg (by rw [hAS.out, hIN.out]; simp), if_neg (by rw [hHD.out]; exact h1)])
      have hG : Hid (s.ask a = s.ask0 a) := Lib.hid (by unfold TNet.ask; rw [if_pos hE.out, Int.toNat_natCast])
      have A1 := HH.out.setHad VH.out HA.out HA.out (hd + 1)
      have e1 : s.ask1 a = { s with had := put2 s.had a a (hd + 1) } := by unfold TNet.ask1; rw [hHD.out]
      by_cases h2 : ho = a
      · have hb2 : (ho == (a : Int)) = true := by rw [h2]; simp
        have hG2 : Hid (s.ask a = { s with had := put2 s.had a a (hd + 1), inn := put1 s.inn a true }) := Lib.hid (by rw [hG.out]; unfold TNet.ask0; rw [if_pos (by rw [hHO.out]; exact h2), e1])
        have HA2 := Lib.hid (TAt.setInn (s := { s with had := put2 s.had a a (hd + 1) }) A1 VN.out HA.out true)
        clear A1 e1 h2
        go_enter Tryd.func8, Tryd.ntmps8
        go_wp2_with fail
        refine HP.out.mono ?_
        rintro e w' ⟨rfl, rfl⟩
        go_wp2
        go_ret
        exact ⟨by rw [hE.out]; rfl, by rw [hG2.out]; exact ⟨V, tag, ⟨cN, VN.out⟩, HA2.out⟩, ((Chg.refl _ w).setCell (.inl HSB.out) _).setCell (.inl HSG.out) _⟩
      · have hb2 : (ho == (a : Int)) = false := by rw [beq_eq_false_iff_ne]; exact h2
        have A2 := TAt.setAsks (s := { s with had := put2 s.had a a (hd + 1) }) A1 VN.out HA.out true
        obtain ⟨s1, HS1⟩ : ∃ s1 : TNet, Hid (({ s with had := put2 s.had a a (hd + 1), asks := put1 s.asks a true } : TNet) = s1) := ⟨_, Lib.hid rfl⟩
        have hG2 : Hid (s.ask a = s1.bcast a (hd + 1) n) := Lib.hid (by rw [hG.out]; unfold TNet.ask0; rw [if_neg (by rw [hHO.out]; exact h2), e1, ← HS1.out, hHD.out, hN.out])
        have hin4 : TIn S ((w.setCell ⟨bH, a, none⟩ (.int .i64 (hd + 1))).setCell ⟨g, a * 3, none⟩ (.bool true)) t g (s1.bcast a (hd + 1) 0) := by
          rw [bcast_zero, ← HS1.out]; exact ⟨V, tag, ⟨cN, VN.out⟩, A2⟩
        have HIN4 := Lib.hid hin4
        have HC4 : Hid (Chg (fun k => ¬ S k) w ((w.setCell ⟨bH, a, none⟩ (.int .i64 (hd + 1))).setCell ⟨g, a * 3, none⟩ (.bool true))) := Lib.hid (((Chg.refl _ w).setCell (.inl HSB.out) _).setCell (.inl HSG.out) _)
        have HF : Hid (s1.n = n ∧ s1.had a a = hd + 1 ∧ ∀ j, j < n → (s1.ways a j).length < 1000) := Lib.hid (by
          rw [← HS1.out]
          refine ⟨hN.out, put2_self _ _ _ _, fun j hj => HSA.out.len a j HA.out (by rw [hN.out]; exact hj)⟩)
        clear A1 A2 e1 h2 hin4
        go_enter Tryd.func8, Tryd.ntmps8
        go_wp2_with fail
        refine HP.out.mono ?_
        rintro e w' ⟨rfl, rfl⟩
        go_wp2_with fail
        clear hb2 h1
        generalize World.setCell _ _ _ = w4 at *
        go_loopw [64] (fun i wr => ∃ j : Nat, j ≤ n ∧ i = .int .i64 j ∧ Hid (TIn S wr t g (s1.bcast a (hd + 1) j)) ∧ Hid (Chg (fun k => ¬ S k) w wr)) (fun i _ => n - (intOf i).toNat)
        case atStart => exact ⟨0, Nat.zero_le _, rfl, HIN4, HC4⟩
        case round =>
          clear d0 d1 d2 k0 kf c0 c1 g0 g1
          obtain ⟨j, hjn, rfl, HI, HC⟩ := hrel
          by_cases hj : j < n
          · have hj1 : (j : Int) < n := by omega
            have HJ : Hid (j + 1 ≤ n) := Lib.hid hj
            by_cases hja : j = a
            · have hb : ((j : Int) != (a : Int)) = false := by rw [hja]; simp
              have hsk : s1.bcast a (hd + 1) (j + 1) = s1.bcast a (hd + 1) j := by
                rw [hja]; exact bcast_skip s1 a (hd + 1)
              have HI2 : Hid (TIn S wr t g (s1.bcast a (hd + 1) (j + 1))) := Lib.hid (by rw [hsk]; exact HI.out)
              clear hsk
              clear hja
              go_wp2
              go_roundw
              case rel => exact ⟨j + 1, HJ.out, by go_num, HI2, HC⟩
              case measure => have := HJ.out; simp [intOf]; omega
            · have hb : ((j : Int) != (a : Int)) = true := by rw [bne_iff_ne]; omega
              obtain ⟨V1, tag1, ⟨cN1, vN1⟩, h1⟩ := HI.out
              have hab : a < (s1.bcast a (hd + 1) j).n := by show a < s1.n; rw [HF.out.1]; exact ha
              have hjb : j < (s1.bcast a (hd + 1) j).n := by show j < s1.n; rw [HF.out.1]; exact hj
              obtain ⟨gW, cW, gR, cR, vW, vR, cWp, cRq, fR, ltW, ltR, c5⟩ := h1.way hab hjb
              obtain ⟨hM, hMb⟩ := h1.msg hab hjb
              obtain ⟨bX, cX, vX, hXc, _, _, _, _⟩ := h1.hadAt hab (show 0 < s1.n by rw [HF.out.1]; omega)
              have e2 := ((h1.nodeAt vN1).1 a hab).2.2
              have c0 := (h1.nodeAt vN1).2.2.2.2
              have kX := hXc a hab
              rw [vX] at e2
              rw [show (s1.bcast a (hd + 1) j).had a a = hd + 1 from HF.out.2.1] at kX
              rw [bcast_way] at hM
              have nt : ¬ (V1 (.msg a j)).ownBlock = some t := fun hf => (hMb t hf).2.2.1 rfl
              have ng : ¬ (V1 (.msg a j)).ownBlock = some g := fun hf => (hMb g hf).2.2.2.1 (by rw [vN1]; rfl)
              have nW : ¬ (V1 (.msg a j)).ownBlock = some gW := fun hf => (hMb gW hf).2.2.2.2.1 (by rw [vW]; rfl)
              have nR : ¬ (V1 (.msg a j)).ownBlock = some gR := fun hf => (hMb gR hf).2.2.2.2.2.1 (by rw [vR]; rfl)
              have nX : ¬ (V1 (.msg a j)).ownBlock = some bX := fun hf => (hMb bX hf).2.2.2.2.2.2 a hab (by rw [vX]; rfl)
              obtain ⟨M, HM⟩ : ∃ M, Hid (V1 (.msg a j) = M) := ⟨_, Lib.hid rfl⟩
              obtain ⟨l, HL⟩ : ∃ l, Hid (s1.ways a j = l) := ⟨_, Lib.hid rfl⟩
              have HSET := Lib.hid (fun (w1 : World) (hc : Chg (fun b => (V1 (.msg a j)).ownBlock = some b) _ w1) => h1.setWay hab hjb vR hc)
              have HNS := Lib.hid (fun b (hb : (V1 (.msg a j)).ownBlock = some b) => (hMb b hb).2.1)
              have HRS : Hid (¬ S gR) := Lib.hid (h1.notS (i := .row a) (by rw [(s1.bcast a (hd + 1) j).rowsR _ _ V1 hab]; show (V1 (.row a)).ownBlock = _; rw [vR]; rfl))
              have HG2 := Lib.hid (fun (v : Value) => show ∃ cap, upd V1 (.msg a j) v .nodes = .slice (some ⟨g, 0, none⟩) (s1.bcast a (hd + 1) j).n cap by rw [upd_ne V1 _ (by simp)]; exact ⟨cN1, vN1⟩)
              have HLEN : Hid (l.length < 1000) := Lib.hid (by rw [← HL.out]; exact HF.out.2.2 j hj)
              rw [HM.out] at nt ng nW nR nX cRq hM HSET HNS
              rw [HL.out] at hM
              have hnn : (s1.bcast a (hd + 1) j).n = n := HF.out.1
              rw [hnn] at c5 cWp e2 c0
              have FR := Lib.hid fR
              have HJA := Lib.hid hja
              have HLT := Lib.hid ltR
              clear hMb h1 fR vW vR vX vN1 hXc hab hjb ltW ltR hja hnn
              go_wp2_with fail
              refine wp_region_plan (Chg (fun k => M.ownBlock = some k) _) 28 [(0,true),(1,true),(2,true),(3,true),(4,true),(5,true),(6,true),(7,true),(8,true),(9,true),(10,true),(11,true),(12,true),(13,true),(14,true),(15,true),(16,true),(17,true),(18,true),(19,true),(20,true),(21,true),(22,true),(23,true),(24,true),(25,false),(26,false),(27,true),(28,false)] mixed (by kernel_rfl) (Chg.refl _ _).drew ?_
              simp only [planOps, List.map_cons, List.map_nil, List.getElem?_cons_zero, List.getElem?_cons_succ, Option.getD_some]
              generalize hops : List.toArray _ = ops
              iterate 25 (refine wpPlan_quiet (v := ?_) rfl (fun _ _ _ h => h) (by intro w1 hS; have s0 := hS.cell_some c5 nt; have s1 := hS.cell_some cWp nW; have s2 := hS.cell_some cRq nR; have s3 := hS.cell_some e2 ng; have s4 := hS.cell_some kX nX; clear hS; go_simp; with_reducible rfl) ?_; (simp only [Act.put, List.setIfInBounds_toArray, List.set_cons_zero, List.set_cons_succ]))
              refine wpPlan_loud rfl (fun K hK => ?_)
              go_simp
              refine hK _ _ (fun _ => ((Chg.refl _ _).alloc _).drew) ?_
              clear hK K
              refine wpPlan_loud rfl (fun K hK => ?_)
              refine wp_app _ _ 29 rfl 3 (.int .i64 0) 1 8 infoInt Tryd.underlying29 rfl (by decide) M _ _ (by rfl) (((Chg.refl NoF wr).alloc _).drew.row hM (fun _ _ hf => hf)) wr.heap.size 1 [.int .i64 (hd + 1)] (by rfl) ⟨3, (0, 0), heap_alloc_new wr _⟩ rfl (by simp [Value.oneCell']) (by omega) (by have := HLEN.out; omega) ?_
              intro g4 cap4 w5 hown4 hc4 hat4 hlt4
              have hc5 : Chg (fun k => M.ownBlock = some k) wr w5 := (((Chg.refl _ wr).alloc _).drew).trans hc4
              have hnb : ∀ k, (Value.slice (some ⟨g4, 0, none⟩) (l.length + 1) cap4).ownBlock = some k → M.ownBlock = some k ∨ wr.heap.size ≤ k := fun k hk => by
                rcases hat4 k hk with h1 | h1
                · exact .inl h1
                · exact .inr (Nat.le_trans (((Chg.refl NoF wr).alloc (.cells #[.int .i64 (hd + 1)] 3)).drew).size h1)
              refine hK _ _ (fun _ => hc5) ?_
              clear hK K
              (try simp only [Act.put, List.setIfInBounds_toArray, List.set_cons_zero, List.set_cons_succ])
              (refine wpPlan_quiet (v := ?_) rfl (fun _ _ _ h => h) (by intro w1 hS; have s0 := hS.cell_some c5 nt; have s1 := hS.cell_some cWp nW; have s2 := hS.cell_some cRq nR; have s3 := hS.cell_some e2 ng; have s4 := hS.cell_some kX nX; clear hS; go_simp; with_reducible rfl) ?_; (simp only [Act.put, List.setIfInBounds_toArray, List.set_cons_zero, List.set_cons_succ]))
              refine wpPlan_loud rfl (fun K hK => ?_)
              have s2 := hc5.cell_some cRq nR
              have f2 : w5.frozen? ⟨gR, j, none⟩ = false := by rw [World.frozen?_of_block (hc5.block gR HLT.out nR)]; exact FR.out j
              go_simp
              refine hK _ _ (fun h => absurd rfl h) ?_
              clear hK K
              clear hops
              refine wpPlan_nil ?_
              have A5 := HSET.out w5 hc5 (.slice (some ⟨g4, 0, none⟩) (l.length + 1) cap4) (l ++ [hd + 1]) (by simpa using hown4) hnb
              have HI5 : Hid (TIn S (w5.setCell ⟨gR, j, none⟩ (.slice (some ⟨g4, 0, none⟩) (l.length + 1) cap4)) t g (s1.bcast a (hd + 1) (j + 1))) := Lib.hid (by
                rw [← bcast_push s1 a (hd + 1) HJA.out, HL.out]
                exact ⟨_, _, HG2.out _, A5⟩)
              have HC6 : Hid (Chg (fun k => ¬ S k) w (w5.setCell ⟨gR, j, none⟩ (.slice (some ⟨g4, 0, none⟩) (l.length + 1) cap4))) := Lib.hid (HC.out.trans ((hc5.mono fun k _ hk => HNS.out k hk).setCell (.inl HRS.out) _))
              clear A5 hnb hown4 hc4 hat4 hlt4 hc5 s2 f2 c5 cWp cRq e2 kX c0 hM HSET HNS nt ng nW nR nX
              generalize w5.setCell ⟨gR, j, none⟩ _ = w6 at *
              go_wp2
              go_roundw
              case rel => exact ⟨j + 1, HJ.out, by go_num, HI5, HC6⟩
              case measure => have := HJ.out; simp [intOf]; omega
          · obtain rfl : j = n := by omega
            go_wp2
            go_ret
            exact ⟨by rw [hE.out]; rfl, by rw [hG2.out]; exact HI.out, HC.out⟩

end Go.Proofs.YthblnljjhbdejaaDoor
