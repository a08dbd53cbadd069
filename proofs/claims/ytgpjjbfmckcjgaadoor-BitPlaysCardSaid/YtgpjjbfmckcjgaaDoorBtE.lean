/-
  The line over two wires: a frame is taken; a word back is heard; whatever happens.
  Conditions: a line as New made it.
-/
import Derived.Test.YtgpjjbfmckcjgaaDoorBtD
import Derived.Deep.DeepCutAuto
namespace Go.Proofs.YtgpjjbfmckcjgaaDoor
open Go Go.RowKit

set_option maxHeartbeats 8000000 in
set_option maxRecDepth 100000 in
theorem do1 (S : Nat → Prop) (w : World) (t : Nat) (s : BNet) (h : BIn S w t s) (hs : BInv s) :
    Calls Tryd.prog 19 #[.pointer (some ⟨t, 0, none⟩), .int .i64 1] w (BDoPost S w t (s.err 1) (s.act 1)) := by
  obtain ⟨V, tag, hA⟩ := h
  have HA := Lib.hid hA
  have HS := Lib.hid hs
  obtain ⟨fa, fc, vF⟩ := hA.val0 .forth
  obtain ⟨ka, kc, vB⟩ := hA.val0 .back
  obtain ⟨ga, gc, vG⟩ := hA.val0 .got
  obtain ⟨va, vc, vV⟩ := hA.val0 .vals
  have vF : V .forth = .slice fa s.forth.length fc := vF
  have vB : V .back = .slice ka s.back.length kc := vB
  have vG : V .got = .slice ga s.got.length gc := vG
  have vV : V .vals = .slice va s.vals.length vc := vV
  have c0 : w.cell? ⟨t, 0, none⟩ = some (V .vals) := hA.blk.cell 0
  have c1 : w.cell? ⟨t, 1, none⟩ = some (.int .i64 s.sent) := hA.blk.cell 1
  have c2 : w.cell? ⟨t, 2, none⟩ = some (V .got) := hA.blk.cell 2
  have c3 : w.cell? ⟨t, 3, none⟩ = some (V .forth) := hA.blk.cell 3
  have c4 : w.cell? ⟨t, 4, none⟩ = some (V .back) := hA.blk.cell 4
  have HVF := Lib.hid vF
  have HVB := Lib.hid vB
  have HVG := Lib.hid vG
  have HVV := Lib.hid vV
  rw [vF] at c3
  rw [vB] at c4
  rw [vG] at c2
  rw [vV] at c0
  obtain ⟨fn, HFN⟩ : ∃ fn, Hid (s.forth.length = fn) := ⟨_, Lib.hid rfl⟩
  obtain ⟨bn, HBN⟩ : ∃ bn, Hid (s.back.length = bn) := ⟨_, Lib.hid rfl⟩
  obtain ⟨gn, HGN⟩ : ∃ gn, Hid (s.got.length = gn) := ⟨_, Lib.hid rfl⟩
  obtain ⟨m, HVN⟩ : ∃ m, Hid (s.vals.length = m) := ⟨_, Lib.hid rfl⟩
  obtain ⟨q, HQN⟩ : ∃ q, Hid (s.sent = q) := ⟨_, Lib.hid rfl⟩
  rw [HFN.out] at c3 HVF
  rw [HBN.out] at c4 HVB
  rw [HGN.out] at c2 HVG
  rw [HVN.out] at c0 HVV
  rw [HQN.out] at c1
  have hf8 : fn ≤ 8 := by rw [← HFN.out]; exact hs.f8
  have hb8 : bn ≤ 8 := by rw [← HBN.out]; exact hs.b8
  have hm20 : m ≤ 20 := by rw [← HVN.out]; exact hs.v20
  have hgm : gn ≤ m := by rw [← HGN.out, ← HVN.out]; exact hs.gle
  have hqm : q ≤ m := by rw [← HQN.out, ← HVN.out]; exact hs.sle
  have BAD : Hid (∀ x w', s.err 1 = x → x ≠ 0 → Chg NoF w w' → BDoPost S w t (s.err 1) (s.act 1) (.returned (errV x)) w') := Lib.hid fun x w' he hx hc => by
    have h1 : s.act 1 = s := by unfold BNet.act; rw [if_neg (by rw [he]; exact hx)]
    rw [h1, he]
    exact ⟨rfl, ⟨V, tag, HA.out.more hc⟩, hc.ofNo⟩
  clear hA vF vB vG vV hs
  by_cases e1 : fn = 0
  · have HE : Hid (s.err 1 = 5) := Lib.hid (by rw [err1, if_pos (by rw [HFN.out]; exact e1)])
    subst e1
    clear c0 c1 c2
    go_enter Tryd.func19, Tryd.ntmps19
    go_wp2_with fail
    refine (within_any _ _ _ _).mono ?_
    rintro e w' ⟨rfl, rfl⟩
    rw [show inB 1 0 6 = true from rfl]
    go_wp2
    go_ret
    exact BAD.out 5 _ HE.out (by decide) (Chg.refl _ _)
  have hz : ((fn : Int) == 0) = false := by rw [beq_eq_false_iff_ne]; omega
  by_cases e2 : 8 ≤ bn
  · have HE : Hid (s.err 1 = 4) := Lib.hid (by rw [err1, if_neg (by rw [HFN.out]; exact e1), if_pos (by rw [HBN.out]; exact e2)])
    have h8 : (8 : Int) ≤ bn := by omega
    clear e1 e2 c0 c1 c2
    go_enter Tryd.func19, Tryd.ntmps19
    go_wp2_with fail
    refine (within_any _ _ _ _).mono ?_
    rintro e w' ⟨rfl, rfl⟩
    rw [show inB 1 0 6 = true from rfl]
    go_wp2
    go_ret
    exact BAD.out 4 _ HE.out (by decide) (Chg.refl _ _)
  have HE : Hid (s.err 1 = 0) := Lib.hid (by rw [err1, if_neg (by rw [HFN.out]; exact e1), if_neg (by rw [HBN.out]; exact e2)])
  have h8 : ¬ (8 : Int) ≤ bn := by omega
  have HL0 : Hid (¬ s.forth.length = 0) := Lib.hid (by rw [HFN.out]; exact e1)
  obtain ⟨b, x, r, hf⟩ : ∃ b x r, s.forth = (b, x) :: r := ⟨_, _, _, cons_of_len HL0.out (0, 0)⟩
  have HF := Lib.hid (first_forth HA.out HS.out (b, x) r hf)
  obtain ⟨s1, hs1⟩ : ∃ s1 : BNet, s1 = { s with forth := r } := ⟨_, rfl⟩
  rw [← hs1] at HF
  have hg1 : Hid (s1.got = s.got ∧ s1.back = s.back ∧ s1.sent = s.sent ∧ s1.vals = s.vals ∧ s1.forth = r) := Lib.hid (by rw [hs1]; exact ⟨rfl, rfl, rfl, rfl, rfl⟩)
  have hact : Hid (s.act 1 = { s1 with got := if b = gn % 2 then s.got ++ [x] else s.got, back := s.back ++ [b] }) := Lib.hid (by
    unfold BNet.act; rw [if_pos HE.out]
    have h : s.pass 1 = { s with got := if s.fbit = s.got.length % 2 then s.got ++ [s.fval] else s.got, back := s.back ++ [s.fbit], forth := s.forth.drop 1 } := rfl
    rw [h]; unfold BNet.fbit BNet.fval; rw [hf, hs1, ← HGN.out]; rfl)
  clear e1 e2 c0 c1 c2 hf hs1
  go_enter Tryd.func19, Tryd.ntmps19
  go_wp2_with fail
  refine (within_any _ _ _ _).mono ?_
  rintro e w' ⟨rfl, rfl⟩
  rw [show inB 1 0 6 = true from rfl]
  go_wp2_with fail
  refine HF.out.mono ?_
  rintro e w1 ⟨rfl, hin, hc⟩
  obtain ⟨V1, tag1, hA1⟩ := hin
  have HA1 := Lib.hid hA1
  have HC1 := Lib.hid hc
  clear hc hA1 HF
  go_wp2_with (refine wpList_plain rfl (fun K hK => wp_storeT aggFrame _ _ rfl w1.heap.size [.int .i64 b, .int .i64 x] [.int .i64 0, .int .i64 0] (by rfl) (by rfl) rfl (Blk.alloc w1 [.int .i64 0, .int .i64 0] 69) rfl rfl ?_); intro w2 hB2 hc2; have HB2 := Lib.hid hB2; have HC2 := Lib.hid (((Chg.refl NoF w1).alloc (.cells #[.int .i64 0, .int .i64 0] 69)).trans2 hc2 (fun i _ hi => .inr (by have hi : i = w1.heap.size := hi; omega))); clear hB2 hc2; refine hK _ _ ?_; clear hK)
  have HA2 : Hid (BAt S w2 t s1 V1 tag1) := Lib.hid (HA1.out.more HC2.out)
  have HCS : Hid (Chg (fun k => ¬ S k) w w2) := Lib.hid (HC1.out.trans HC2.out.ofNo)
  obtain ⟨F, HFE⟩ : ∃ F, Hid (w1.heap.size = F) := ⟨_, Lib.hid rfl⟩
  rw [HFE.out] at HB2
  have f0 : w2.cell? ⟨F, 0, none⟩ = some (.int .i64 b) := HB2.out.cell 0
  have f1 : w2.cell? ⟨F, 1, none⟩ = some (.int .i64 x) := HB2.out.cell 1
  have HFT : Hid (F ≠ t) := Lib.hid (fun e => by have := HA1.out.blk.lt; rw [HFE.out] at this; omega)
  have HFO : Hid (∀ i : BIx, ¬ (V1 i).ownBlock = some F) := Lib.hid (fun i e => by
    have hv : ∀ j, (s1.rows V1 j).v = V1 j := fun j => by cases j <;> rfl
    have := HA1.out.lt (i := i) (by rw [hv]; exact e)
    rw [HFE.out] at this; omega)
  rw [HFE.out]
  obtain ⟨ga1, gc1, vG1⟩ := HA2.out.val0 .got
  have vG1 : V1 .got = .slice ga1 s1.got.length gc1 := vG1
  rw [hg1.out.1, HGN.out] at vG1
  have HVG1 := Lib.hid vG1
  have c2 : w2.cell? ⟨t, 2, none⟩ = some (.slice ga1 gn gc1) := by rw [← vG1]; exact HA2.out.blk.cell 2
  have hrem : Int.tmod (gn : Int) 2 = ((gn % 2 : Nat) : Int) := by rw [Int.tmod_eq_emod_of_nonneg (Int.natCast_nonneg gn)]; omega
  obtain ⟨gm, HGM⟩ : ∃ gm, Hid (gn % 2 = gm) := ⟨_, Lib.hid rfl⟩
  rw [HGM.out] at hrem
  rw [HGM.out] at hact
  clear vG1 HB2
  refine wp_region_plan (Chg NoF w2) 9 [(0,true),(1,true),(2,true),(3,true),(4,true),(5,true),(6,true),(7,true),(8,true)] mixed (by kernel_rfl) (Chg.refl _ _).drew ?_
  simp only [planOps, List.map_cons, List.map_nil, List.getElem?_cons_zero, List.getElem?_cons_succ, Option.getD_some]
  generalize hops : List.toArray _ = ops
  iterate 9 (refine wpPlan_quiet (v := ?_) rfl (fun _ _ _ h => h) (by intro w1 hS; have s0 := hS.cell_some f0 (fun h => h); have s1 := hS.cell_some c2 (fun h => h); clear hS; go_simp; with_reducible rfl) ?_; (simp only [Act.put, List.setIfInBounds_toArray, List.set_cons_zero, List.set_cons_succ]))
  clear hops
  refine wpPlan_nil ?_
  have HA3 : Hid (BAt S w2.drew t s1 V1 tag1) := Lib.hid (HA2.out.more ((Chg.refl NoF w2).drew))
  have HCS3 : Hid (Chg (fun k => ¬ S k) w w2.drew) := Lib.hid HCS.out.drew
  have f0 : w2.drew.cell? ⟨F, 0, none⟩ = some (.int .i64 b) := f0
  have f1 : w2.drew.cell? ⟨F, 1, none⟩ = some (.int .i64 x) := f1
  have c2 : w2.drew.cell? ⟨t, 2, none⟩ = some (.slice ga1 gn gc1) := c2
  clear HA2 HCS
  generalize w2.drew = w3 at *
  obtain ⟨s2, hs2⟩ : ∃ s2 : BNet, s2 = { s1 with got := if b = gm then s.got ++ [x] else s.got } := ⟨_, rfl⟩
  have HS2 := Lib.hid hs2
  clear hs2
  go_upto_if 111 with fail
  go_cut [] (fun wx => ∃ V2 tag2, Hid (BAt S wx t s2 V2 tag2 ∧ V2 .back = V1 .back) ∧ Hid (wx.cell? ⟨F, 0, none⟩ = some (.int .i64 b)) ∧ Hid (Chg (fun k => ¬ S k) w wx))
  case first =>
    by_cases e : b = gm
    · have hbe : ((b : Int) == (gm : Int)) = true := by rw [beq_iff_eq]; omega
      have HSE : Hid (s2 = { s1 with got := s.got ++ [x] }) := Lib.hid (by rw [HS2.out, if_pos e])
      have hrow : Hid (w3.ownsRow 0 3 1 (.slice ga1 gn gc1) gn (s.got.map (.int .i64))) := Lib.hid (by
        have h : w3.ownsRow 0 3 1 (V1 .got) s1.got.length (s1.got.map (.int .i64)) := HA3.out.row .got
        rw [HVG1.out, hg1.out.1, HGN.out] at h; exact h)
      have nt : ¬ (V1 .got).ownBlock = some t := HA3.out.tne (i := .got)
      have nF := HFO.out .got
      have HNS : Hid (∀ b, (V1 .got).ownBlock = some b → ¬ S b) := Lib.hid (fun b hb => HA3.out.notS (i := .got) hb)
      have f2 := HA3.out.blk.frozen 2
      have tlt := HA3.out.blk.lt
      have HTS := Lib.hid HA3.out.tNotS
      rw [HVG1.out] at nt nF HNS
      clear e
      go_wp2_with fail
      refine wp_region_plan (Chg (fun b => (Value.slice ga1 gn gc1).ownBlock = some b) w3) 11 [(0,true),(1,true),(2,true),(3,true),(4,true),(5,true),(6,true),(7,false),(8,false),(9,true),(10,true),(11,false)] mixed (by kernel_rfl) (Chg.refl _ _).drew ?_
      simp only [planOps, List.map_cons, List.map_nil, List.getElem?_cons_zero, List.getElem?_cons_succ, Option.getD_some]
      generalize hops : List.toArray _ = ops
      iterate 7 (refine wpPlan_quiet (v := ?_) rfl (fun _ _ _ h => h) (by intro w1 hS; have s0 := hS.cell_some c2 nt; have s1 := hS.cell_some f1 nF; clear hS; go_simp; with_reducible rfl) ?_; (simp only [Act.put, List.setIfInBounds_toArray, List.set_cons_zero, List.set_cons_succ]))
      refine wpPlan_loud rfl (fun K hK => ?_)
      go_simp
      refine hK _ _ (fun _ => (((Chg.refl NoF w3).drew).alloc _).ofNo) ?_
      clear hK K
      (try simp only [Act.put, List.setIfInBounds_toArray, List.set_cons_zero, List.set_cons_succ])
      refine wpPlan_loud rfl (fun K hK => ?_)
      refine wp_app _ _ 22 rfl 3 (.int .i64 0) 1 8 infoInt Tryd.underlying22 rfl (by decide) (.slice ga1 gn gc1) gn _ (by rfl) ((((Chg.refl NoF w3).drew).alloc _).row hrow.out (fun _ _ hf => hf)) w3.heap.size 1 [.int .i64 x] (by rfl) ⟨3, (0, 0), heap_alloc_new w3.drew _⟩ rfl (by simp [Value.oneCell']) (by omega) (by omega) ?_
      intro g4 cap4 w4 hown4 hc4 hat4 hlt4
      have hc5 : Chg (fun b => (Value.slice ga1 gn gc1).ownBlock = some b) w3 w4 := ((((Chg.refl NoF w3).drew).alloc _).ofNo).trans hc4
      refine hK _ _ (fun _ => hc5) ?_
      clear hK K
      (try simp only [Act.put, List.setIfInBounds_toArray, List.set_cons_zero, List.set_cons_succ])
      iterate 2 (refine wpPlan_quiet (v := ?_) rfl (fun _ _ _ h => h) (by intro w1 hS; have s0 := hS.cell_some c2 nt; clear hS; go_simp; with_reducible rfl) ?_; (simp only [Act.put, List.setIfInBounds_toArray, List.set_cons_zero, List.set_cons_succ]))
      refine wpPlan_loud rfl (fun K hK => ?_)
      have s2' := hc5.cell_some c2 nt
      have f2' : w4.frozen? ⟨t, 2, none⟩ = false := by rw [World.frozen?_of_block (hc5.block t tlt nt)]; exact f2
      go_simp
      refine hK _ _ (fun h => absurd rfl h) ?_
      clear hK K
      clear hops
      refine wpPlan_nil ?_
      have HI : Hid (∃ tag', BAt S (w4.setCell ⟨t, 2, none⟩ (.slice (some ⟨g4, 0, none⟩) (gn + 1) cap4)) t s2 (upd V1 .got (.slice (some ⟨g4, 0, none⟩) (gn + 1) cap4)) tag') := Lib.hid (BAt.putV (w1 := w3) (s' := s2) HA3.out .got (Chg.refl _ _) (by rw [HVG1.out]; exact hc5) _ _ _ _ _ hown4 (fun b hb => by
        rw [HVG1.out]
        rcases hat4 b hb with h | h
        · exact .inl h
        · right; simp at h; omega) (by
          rw [HSE.out]
          show (⟨_, _, upd V1 .got _ .got, (s.got ++ [x]).length, (s.got ++ [x]).map (.int .i64)⟩ : Sl) = _
          rw [upd_self, List.length_append, HGN.out, List.map_append]; rfl) (fun j hj => by rw [HSE.out]; cases j <;> first | exact absurd rfl hj | rfl) (by rw [HSE.out]))
      have HC : Hid (Chg (fun k => ¬ S k) w (w4.setCell ⟨t, 2, none⟩ (.slice (some ⟨g4, 0, none⟩) (gn + 1) cap4))) := Lib.hid ((HCS3.out.trans (hc5.mono fun b _ hb => HNS.out b hb)).setCell (.inl HTS.out) _)
      have f0' : Hid ((w4.setCell ⟨t, 2, none⟩ (.slice (some ⟨g4, 0, none⟩) (gn + 1) cap4)).cell? ⟨F, 0, none⟩ = some (.int .i64 b)) := Lib.hid ((setCell_chg w4 ⟨t, 2, none⟩ _).cell_some (hc5.cell_some f0 nF) (fun e => HFT.out e))
      clear hc5 hown4 hat4 hlt4 hc4 c2 f0 f1 f2 tlt nt nF s2' f2'
      generalize w4.setCell ⟨t, 2, none⟩ _ = w5 at *
      go_wp2_with fail
      go_meet
      case rel =>
        obtain ⟨tag', hI⟩ := HI.out
        exact ⟨_, tag', Lib.hid ⟨hI, upd_ne V1 _ (by simp)⟩, f0', HC⟩
    · have hbe : ((b : Int) == (gm : Int)) = false := by rw [beq_eq_false_iff_ne]; omega
      have HSE : Hid (s2 = s1) := Lib.hid (by rw [HS2.out, if_neg e, ← hg1.out.1])
      have F0 := Lib.hid f0
      clear e c2 f1 f0
      go_wp2_with fail
      go_meet
      case rel => exact ⟨V1, tag1, Lib.hid ⟨by rw [HSE.out]; exact HA3.out, rfl⟩, F0, HCS3⟩
  case rest =>
  obtain ⟨V2, tag2, H2, F0, HC2'⟩ := hcut
  have HSB : Hid (s2.back = s.back) := Lib.hid (by rw [HS2.out]; exact hg1.out.2.1)
  obtain ⟨ka2, kc2, vB2⟩ := H2.out.1.val0 .back
  have vB2 : V2 .back = .slice ka2 s2.back.length kc2 := vB2
  rw [HSB.out, HBN.out] at vB2
  have HVB2 := Lib.hid vB2
  have c4' : wc.cell? ⟨t, 4, none⟩ = some (.slice ka2 bn kc2) := by rw [← vB2]; exact H2.out.1.blk.cell 4
  have f0' := F0.out
  have hrow : Hid (wc.ownsRow 0 69 2 (.slice ka2 bn kc2) bn (fcells (zip0 s.back))) := Lib.hid (by
    have h : wc.ownsRow 0 69 2 (V2 .back) s2.back.length (fcells (zip0 s2.back)) := H2.out.1.row .back
    rw [HVB2.out, HSB.out, HBN.out] at h; exact h)
  have nt : ¬ (V2 .back).ownBlock = some t := H2.out.1.tne (i := .back)
  have nF : ¬ (V2 .back).ownBlock = some F := by rw [H2.out.2]; exact HFO.out .back
  have HNS : Hid (∀ b, (V2 .back).ownBlock = some b → ¬ S b) := Lib.hid (fun b hb => H2.out.1.notS (i := .back) hb)
  have f4 := H2.out.1.blk.frozen 4
  have tlt := H2.out.1.blk.lt
  have HTS := Lib.hid H2.out.1.tNotS
  rw [HVB2.out] at nt nF HNS
  have hact2 : Hid (s.act 1 = { s2 with back := s.back ++ [b] }) := Lib.hid (by rw [hact.out, HS2.out])
  clear vB2 f0 f1 c2
  go_wp2_with fail
  refine wp_region_plan (Chg (fun b => (Value.slice ka2 bn kc2).ownBlock = some b) wc) 12 [(0,true),(1,true),(2,true),(3,true),(4,true),(5,true),(6,true),(7,true),(8,false),(9,false),(10,true),(11,true),(12,false)] mixed (by kernel_rfl) (Chg.refl _ _).drew ?_
  simp only [planOps, List.map_cons, List.map_nil, List.getElem?_cons_zero, List.getElem?_cons_succ, Option.getD_some]
  generalize hops : List.toArray _ = ops
  iterate 8 (refine wpPlan_quiet (v := ?_) rfl (fun _ _ _ h => h) (by intro w1 hS; have s0 := hS.cell_some c4' nt; have s1 := hS.cell_some f0' nF; clear hS; go_simp; with_reducible rfl) ?_; (simp only [Act.put, List.setIfInBounds_toArray, List.set_cons_zero, List.set_cons_succ]))
  refine wpPlan_loud rfl (fun K hK => ?_)
  go_simp
  refine hK _ _ (fun _ => (((Chg.refl NoF wc).drew).alloc _).ofNo) ?_
  clear hK K
  (try simp only [Act.put, List.setIfInBounds_toArray, List.set_cons_zero, List.set_cons_succ])
  refine wpPlan_loud rfl (fun K hK => ?_)
  refine wp_app _ _ 63 rfl 69 (.agg #[.int .i64 0, .int .i64 0]) 2 16 infoFrame Tryd.underlying63 rfl (by decide) (.slice ka2 bn kc2) bn _ (by rfl) ((((Chg.refl NoF wc).drew).alloc _).row hrow.out (fun _ _ hf => hf)) wc.heap.size 1 [.int .i64 b, .int .i64 0] (by rfl) ⟨69, (0, 0), heap_alloc_new wc.drew _⟩ rfl (by simp [Value.oneCell']) (by omega) (by omega) ?_
  intro g4 cap4 w4 hown4 hc4 hat4 hlt4
  have hc5 : Chg (fun b => (Value.slice ka2 bn kc2).ownBlock = some b) wc w4 := ((((Chg.refl NoF wc).drew).alloc _).ofNo).trans hc4
  refine hK _ _ (fun _ => hc5) ?_
  clear hK K
  (try simp only [Act.put, List.setIfInBounds_toArray, List.set_cons_zero, List.set_cons_succ])
  iterate 2 (refine wpPlan_quiet (v := ?_) rfl (fun _ _ _ h => h) (by intro w1 hS; have s0 := hS.cell_some c4' nt; clear hS; go_simp; with_reducible rfl) ?_; (simp only [Act.put, List.setIfInBounds_toArray, List.set_cons_zero, List.set_cons_succ]))
  refine wpPlan_loud rfl (fun K hK => ?_)
  have s4' := hc5.cell_some c4' nt
  have f4' : w4.frozen? ⟨t, 4, none⟩ = false := by rw [World.frozen?_of_block (hc5.block t tlt nt)]; exact f4
  go_simp
  refine hK _ _ (fun h => absurd rfl h) ?_
  clear hK K
  clear hops
  refine wpPlan_nil ?_
  have HI : Hid (BIn S (w4.setCell ⟨t, 4, none⟩ (.slice (some ⟨g4, 0, none⟩) (bn + 1) cap4)) t { s2 with back := s.back ++ [b] }) := Lib.hid (BAt.put (w1 := wc) (s' := { s2 with back := s.back ++ [b] }) H2.out.1 .back (Chg.refl _ _) (by rw [HVB2.out]; exact hc5) _ _ _ _ _ hown4 (fun b hb => by
    rw [HVB2.out]
    rcases hat4 b hb with h | h
    · exact .inl h
    · right; simp at h; omega) (by
      show (⟨_, _, upd V2 .back _ .back, (s.back ++ [b]).length, fcells (zip0 (s.back ++ [b]))⟩ : Sl) = _
      have e : zip0 (s.back ++ [b]) = zip0 s.back ++ [(b, 0)] := by simp [zip0]
      rw [upd_self, List.length_append, HBN.out, e, fcells_append]; rfl) (fun j hj => by cases j <;> first | exact absurd rfl hj | rfl) rfl)
  have HC : Hid (Chg (fun k => ¬ S k) w (w4.setCell ⟨t, 4, none⟩ (.slice (some ⟨g4, 0, none⟩) (bn + 1) cap4))) := Lib.hid ((HC2'.out.trans (hc5.mono fun b _ hb => HNS.out b hb)).setCell (.inl HTS.out) _)
  clear hc5 hown4 hat4 hlt4 hc4 c4' f0' f4 tlt nt nF s4' f4'
  generalize w4.setCell ⟨t, 4, none⟩ _ = w5 at *
  go_wp2
  go_ret
  exact ⟨by rw [HE.out]; rfl, by rw [hact2.out]; exact HI.out, HC.out⟩

end Go.Proofs.YtgpjjbfmckcjgaaDoor
