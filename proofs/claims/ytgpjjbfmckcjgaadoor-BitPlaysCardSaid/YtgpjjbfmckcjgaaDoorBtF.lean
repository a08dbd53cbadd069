/-
  The line over two wires: a word back is heard; whatever happens; the closed fact.
  Conditions: a line as New made it.
-/
import Derived.Test.YtgpjjbfmckcjgaaDoorBtE
namespace Go.Proofs.YtgpjjbfmckcjgaaDoor
open Go Go.RowKit

set_option maxHeartbeats 8000000 in
set_option maxRecDepth 100000 in
theorem do4 (S : Nat → Prop) (w : World) (t : Nat) (s : BNet) (h : BIn S w t s) (hs : BInv s) :
    Calls Tryd.prog 19 #[.pointer (some ⟨t, 0, none⟩), .int .i64 4] w (BDoPost S w t (s.err 4) (s.act 4)) := by
  obtain ⟨V, tag, hA⟩ := h
  have HA := Lib.hid hA
  have HS := Lib.hid hs
  obtain ⟨fa, fc, vF⟩ := hA.val0 .forth
  obtain ⟨ka, kc, vB⟩ := hA.val0 .back
  obtain ⟨ga, gc, vG⟩ := hA.val0 .got
  obtain ⟨va, vc, vV⟩ := hA.val0 .vals
  have vF : V .forth = .slice fa s.forth.length fc := vF
  have vB : V .back = .slice ka s.back.length kc := vB
  have vG : V .got = .slice ga s.got.length gc := vG
  have vV : V .vals = .slice va s.vals.length vc := vV
  have c0 : w.cell? ⟨t, 0, none⟩ = some (V .vals) := hA.blk.cell 0
  have c1 : w.cell? ⟨t, 1, none⟩ = some (.int .i64 s.sent) := hA.blk.cell 1
  have c2 : w.cell? ⟨t, 2, none⟩ = some (V .got) := hA.blk.cell 2
  have c3 : w.cell? ⟨t, 3, none⟩ = some (V .forth) := hA.blk.cell 3
  have c4 : w.cell? ⟨t, 4, none⟩ = some (V .back) := hA.blk.cell 4
  have HVF := Lib.hid vF
  have HVB := Lib.hid vB
  have HVG := Lib.hid vG
  have HVV := Lib.hid vV
  rw [vF] at c3
  rw [vB] at c4
  rw [vG] at c2
  rw [vV] at c0
  obtain ⟨fn, HFN⟩ : ∃ fn, Hid (s.forth.length = fn) := ⟨_, Lib.hid rfl⟩
  obtain ⟨bn, HBN⟩ : ∃ bn, Hid (s.back.length = bn) := ⟨_, Lib.hid rfl⟩
  obtain ⟨gn, HGN⟩ : ∃ gn, Hid (s.got.length = gn) := ⟨_, Lib.hid rfl⟩
  obtain ⟨m, HVN⟩ : ∃ m, Hid (s.vals.length = m) := ⟨_, Lib.hid rfl⟩
  obtain ⟨q, HQN⟩ : ∃ q, Hid (s.sent = q) := ⟨_, Lib.hid rfl⟩
  rw [HFN.out] at c3 HVF
  rw [HBN.out] at c4 HVB
  rw [HGN.out] at c2 HVG
  rw [HVN.out] at c0 HVV
  rw [HQN.out] at c1
  have hf8 : fn ≤ 8 := by rw [← HFN.out]; exact hs.f8
  have hb8 : bn ≤ 8 := by rw [← HBN.out]; exact hs.b8
  have hm20 : m ≤ 20 := by rw [← HVN.out]; exact hs.v20
  have hgm : gn ≤ m := by rw [← HGN.out, ← HVN.out]; exact hs.gle
  have hqm : q ≤ m := by rw [← HQN.out, ← HVN.out]; exact hs.sle
  have BAD : Hid (∀ x w', s.err 4 = x → x ≠ 0 → Chg NoF w w' → BDoPost S w t (s.err 4) (s.act 4) (.returned (errV x)) w') := Lib.hid fun x w' he hx hc => by
    have h1 : s.act 4 = s := by unfold BNet.act; rw [if_neg (by rw [he]; exact hx)]
    rw [h1, he]
    exact ⟨rfl, ⟨V, tag, HA.out.more hc⟩, hc.ofNo⟩
  clear hA vF vB vG vV hs
  by_cases e1 : bn = 0
  · have HE : Hid (s.err 4 = 5) := Lib.hid (by rw [err4, if_pos (by rw [HBN.out]; exact e1)])
    subst e1
    clear c0 c1 c2
    go_enter Tryd.func19, Tryd.ntmps19
    go_wp2_with fail
    refine (within_any _ _ _ _).mono ?_
    rintro e w' ⟨rfl, rfl⟩
    rw [show inB 4 0 6 = true from rfl]
    go_wp2
    go_ret
    exact BAD.out 5 _ HE.out (by decide) (Chg.refl _ _)
  have HE : Hid (s.err 4 = 0) := Lib.hid (by rw [err4, if_neg (by rw [HBN.out]; exact e1)])
  have hz : ((bn : Int) == 0) = false := by rw [beq_eq_false_iff_ne]; omega
  have HL0 : Hid (¬ s.back.length = 0) := Lib.hid (by rw [HBN.out]; exact e1)
  obtain ⟨b, r, hf⟩ : ∃ b r, s.back = b :: r := ⟨_, _, cons_of_len HL0.out 0⟩
  have HF := Lib.hid (first_back HA.out HS.out b r hf)
  obtain ⟨s1, hs1⟩ : ∃ s1 : BNet, s1 = { s with back := r } := ⟨_, rfl⟩
  rw [← hs1] at HF
  have hg1 : Hid (s1.sent = s.sent ∧ s1.vals = s.vals) := Lib.hid (by rw [hs1]; exact ⟨rfl, rfl⟩)
  have hact : Hid (s.act 4 = { s1 with sent := if b = q % 2 ∧ q < m then q + 1 else q }) := Lib.hid (by
    unfold BNet.act; rw [if_pos HE.out]
    have h : s.pass 4 = { s with sent := if s.bbit = s.sent % 2 ∧ s.sent < s.vals.length then s.sent + 1 else s.sent, back := s.back.drop 1 } := rfl
    rw [h]; unfold BNet.bbit; rw [hf, hs1, ← HQN.out, ← HVN.out]; rfl)
  have h8 : (8 : Int) ≤ bn ∨ ¬ (8 : Int) ≤ bn := by omega
  clear e1 c0 c1 c2 hf hs1
  rcases h8 with h8 | h8
  all_goals
    go_enter Tryd.func19, Tryd.ntmps19
    go_wp2_with fail
    refine (within_any _ _ _ _).mono ?_
    rintro e w' ⟨rfl, rfl⟩
    rw [show inB 4 0 6 = true from rfl]
    go_wp2_with fail
    refine HF.out.mono ?_
    rintro e w1 ⟨rfl, hin, hc⟩
    obtain ⟨V1, tag1, hA1⟩ := hin
    have HA1 := Lib.hid hA1
    have HC1 := Lib.hid hc
    clear hc hA1 HF
    go_wp2_with (refine wpList_plain rfl (fun K hK => wp_storeT aggFrame _ _ rfl w1.heap.size [.int .i64 b, .int .i64 0] [.int .i64 0, .int .i64 0] (by rfl) (by rfl) rfl (Blk.alloc w1 [.int .i64 0, .int .i64 0] 69) rfl rfl ?_); intro w2 hB2 hc2; have HB2 := Lib.hid hB2; have HC2 := Lib.hid (((Chg.refl NoF w1).alloc (.cells #[.int .i64 0, .int .i64 0] 69)).trans2 hc2 (fun i _ hi => .inr (by have hi : i = w1.heap.size := hi; omega))); clear hB2 hc2; refine hK _ _ ?_; clear hK)
    have HA2 : Hid (BAt S w2 t s1 V1 tag1) := Lib.hid (HA1.out.more HC2.out)
    have HCS : Hid (Chg (fun k => ¬ S k) w w2) := Lib.hid (HC1.out.trans HC2.out.ofNo)
    obtain ⟨F, HFE⟩ : ∃ F, Hid (w1.heap.size = F) := ⟨_, Lib.hid rfl⟩
    rw [HFE.out] at HB2
    have f0 : w2.cell? ⟨F, 0, none⟩ = some (.int .i64 b) := HB2.out.cell 0
    have f1 : w2.cell? ⟨F, 1, none⟩ = some (.int .i64 0) := HB2.out.cell 1
    have HFT : Hid (F ≠ t) := Lib.hid (fun e => by have := HA1.out.blk.lt; rw [HFE.out] at this; omega)
    have HFO : Hid (∀ i : BIx, ¬ (V1 i).ownBlock = some F) := Lib.hid (fun i e => by
      have hv : ∀ j, (s1.rows V1 j).v = V1 j := fun j => by cases j <;> rfl
      have := HA1.out.lt (i := i) (by rw [hv]; exact e)
      rw [HFE.out] at this; omega)
    rw [HFE.out]
    obtain ⟨va1, vc1, vV1⟩ := HA2.out.val0 .vals
    have vV1 : V1 .vals = .slice va1 s1.vals.length vc1 := vV1
    rw [hg1.out.2, HVN.out] at vV1
    have c0 : w2.cell? ⟨t, 0, none⟩ = some (.slice va1 m vc1) := by rw [← vV1]; exact HA2.out.blk.cell 0
    have c1 : w2.cell? ⟨t, 1, none⟩ = some (.int .i64 q) := by
      have : w2.cell? ⟨t, 1, none⟩ = some (.int .i64 s1.sent) := HA2.out.blk.cell 1
      rw [hg1.out.1, HQN.out] at this; exact this
    have hrem : Int.tmod (q : Int) 2 = ((q % 2 : Nat) : Int) := by rw [Int.tmod_eq_emod_of_nonneg (Int.natCast_nonneg q)]; omega
    obtain ⟨gm, HGM⟩ : ∃ gm, Hid (q % 2 = gm) := ⟨_, Lib.hid rfl⟩
    rw [HGM.out] at hrem hact
    have ft1 := HA2.out.blk.frozen 1
    have HTS := Lib.hid HA2.out.tNotS
    clear vV1 HB2 f1
    have NOACT : Hid (∀ wq, Chg NoF w2 wq → ¬ (b = gm ∧ q < m) → BDoPost S w t (s.err 4) (s.act 4) (.returned .nilIface) wq) := Lib.hid (fun wq hc hn => by
      refine ⟨by rw [HE.out]; rfl, ?_, HCS.out.trans hc.ofNo⟩
      have e : s.act 4 = s1 := by
        rw [hact.out, if_neg hn]
        have h1 := hg1.out.1
        rw [HQN.out] at h1
        rw [← h1]
      rw [e]
      exact ⟨V1, tag1, HA2.out.more hc⟩)
    by_cases e : b = gm
    · have hbe : ((b : Int) == (gm : Int)) = true := by rw [beq_iff_eq]; omega
      by_cases e2 : q < m
      · have d2 : (q : Int) < (m : Int) := by omega
        have d3 : q < m := e2
        have hact2 : Hid (s.act 4 = { s1 with sent := q + 1 }) := Lib.hid (by rw [hact.out, if_pos ⟨e, e2⟩])
        have hw1 : wrap64 ((q : Int) + 1) = q + 1 := IntWalk.wrap64_in _ (by omega)
        clear e e2
        refine wp_region_plan (Chg NoF w2) 20 [(0,true),(1,true),(2,true),(3,true),(4,true),(5,true),(6,true),(7,true),(8,true),(9,true),(10,true),(11,true),(12,true),(13,true),(14,true),(15,true),(16,true),(17,true),(18,true),(19,true)] mixed (by kernel_rfl) (Chg.refl _ _).drew ?_
        simp only [planOps, List.map_cons, List.map_nil, List.getElem?_cons_zero, List.getElem?_cons_succ, Option.getD_some]
        generalize hops : List.toArray _ = ops
        iterate 9 (refine wpPlan_quiet (v := ?_) rfl (fun _ _ _ h => h) (by intro w1 hS; have s0 := hS.cell_some f0 (fun h => h); have s1 := hS.cell_some c1 (fun h => h); clear hS; go_simp; with_reducible rfl) ?_; (simp only [Act.put, List.setIfInBounds_toArray, List.set_cons_zero, List.set_cons_succ]))
        iterate 10 (refine wpPlan_quietG (v := ?_) (by rw [← hops]; rfl) (fun _ _ _ h => h) (by intro w1 hS; have s0 := hS.cell_some c1 (fun h => h); have s1 := hS.cell_some c0 (fun h => h); clear hS; go_simp; with_reducible rfl) ?_; (simp only [Act.put, List.setIfInBounds_toArray, List.set_cons_zero, List.set_cons_succ]))
        (refine wpPlan_quiet (v := ?_) rfl (fun _ _ _ h => h) (by intro w1 hS; clear hS; go_simp; with_reducible rfl) ?_; (simp only [Act.put, List.setIfInBounds_toArray, List.set_cons_zero, List.set_cons_succ]))
        clear hops
        refine wpPlan_nil ?_
        have c1 : w2.drew.cell? ⟨t, 1, none⟩ = some (.int .i64 q) := c1
        have ft1 : w2.drew.frozen? ⟨t, 1, none⟩ = false := ft1
        have HA3 : Hid (BAt S w2.drew t s1 V1 tag1) := Lib.hid (HA2.out.more ((Chg.refl NoF w2).drew))
        have HCS3 : Hid (Chg (fun k => ¬ S k) w w2.drew) := Lib.hid HCS.out.drew
        clear c0 f0 HA2 HCS NOACT
        generalize w2.drew = w3 at *
        have HI : Hid (BIn S (w3.setCell ⟨t, 1, none⟩ (.int .i64 ((q : Int) + 1))) t { s1 with sent := q + 1 }) := Lib.hid ⟨V1, tag1, Mem.congr (HA3.out.setTop 1 (.int .i64 ((q : Int) + 1))) rfl (fun j => by cases j <;> rfl)⟩
        have HC : Hid (Chg (fun k => ¬ S k) w (w3.setCell ⟨t, 1, none⟩ (.int .i64 ((q : Int) + 1)))) := Lib.hid (HCS3.out.setCell (.inl HTS.out) _)
        go_wp2
        go_ret
        exact ⟨by rw [HE.out]; rfl, by rw [hact2.out]; exact HI.out, HC.out⟩
      · have d2 : ¬ (q : Int) < (m : Int) := by omega
        have d3 : ¬ q < m := e2
        have HNA := Lib.hid (fun wq (hc : Chg NoF w2 wq) => NOACT.out wq hc (fun h => e2 h.2))
        clear e e2
        refine wp_region_plan (Chg NoF w2) 20 [(0,true),(1,true),(2,true),(3,true),(4,true),(5,true),(6,true),(7,true),(8,true),(9,true),(10,true),(11,true),(12,true),(13,true),(14,true),(15,true),(16,true),(17,true),(18,true),(19,true)] mixed (by kernel_rfl) (Chg.refl _ _).drew ?_
        simp only [planOps, List.map_cons, List.map_nil, List.getElem?_cons_zero, List.getElem?_cons_succ, Option.getD_some]
        generalize hops : List.toArray _ = ops
        iterate 9 (refine wpPlan_quiet (v := ?_) rfl (fun _ _ _ h => h) (by intro w1 hS; have s0 := hS.cell_some f0 (fun h => h); have s1 := hS.cell_some c1 (fun h => h); clear hS; go_simp; with_reducible rfl) ?_; (simp only [Act.put, List.setIfInBounds_toArray, List.set_cons_zero, List.set_cons_succ]))
        iterate 10 (refine wpPlan_quietG (v := ?_) (by rw [← hops]; rfl) (fun _ _ _ h => h) (by intro w1 hS; have s0 := hS.cell_some c1 (fun h => h); have s1 := hS.cell_some c0 (fun h => h); clear hS; go_simp; with_reducible rfl) ?_; (simp only [Act.put, List.setIfInBounds_toArray, List.set_cons_zero, List.set_cons_succ]))
        (refine wpPlan_quiet (v := ?_) rfl (fun _ _ _ h => h) (by intro w1 hS; clear hS; go_simp; with_reducible rfl) ?_; (simp only [Act.put, List.setIfInBounds_toArray, List.set_cons_zero, List.set_cons_succ]))
        clear hops
        refine wpPlan_nil ?_
        clear c0 c1 f0 ft1
        go_wp2
        go_ret
        exact HNA.out _ ((Chg.refl NoF w2).drew)
    · have hbe : ((b : Int) == (gm : Int)) = false := by rw [beq_eq_false_iff_ne]; omega
      have HNA := Lib.hid (fun wq (hc : Chg NoF w2 wq) => NOACT.out wq hc (fun h => e h.1))
      clear e
      refine wp_region_plan (Chg NoF w2) 20 [(0,true),(1,true),(2,true),(3,true),(4,true),(5,true),(6,true),(7,true),(8,true),(9,true),(10,true),(11,true),(12,true),(13,true),(14,true),(15,true),(16,true),(17,true),(18,true),(19,true)] mixed (by kernel_rfl) (Chg.refl _ _).drew ?_
      simp only [planOps, List.map_cons, List.map_nil, List.getElem?_cons_zero, List.getElem?_cons_succ, Option.getD_some]
      generalize hops : List.toArray _ = ops
      iterate 9 (refine wpPlan_quiet (v := ?_) rfl (fun _ _ _ h => h) (by intro w1 hS; have s0 := hS.cell_some f0 (fun h => h); have s1 := hS.cell_some c1 (fun h => h); clear hS; go_simp; with_reducible rfl) ?_; (simp only [Act.put, List.setIfInBounds_toArray, List.set_cons_zero, List.set_cons_succ]))
      iterate 10 (refine wpPlan_skip (by rw [← hops]; rfl) (fun _ _ _ h => h) ?_; (simp only [Act.put, List.setIfInBounds_toArray, List.set_cons_zero, List.set_cons_succ]))
      (refine wpPlan_quiet (v := ?_) rfl (fun _ _ _ h => h) (by intro w1 hS; clear hS; go_simp; with_reducible rfl) ?_; (simp only [Act.put, List.setIfInBounds_toArray, List.set_cons_zero, List.set_cons_succ]))
      clear hops
      refine wpPlan_nil ?_
      clear c0 c1 f0 ft1
      go_wp2
      go_ret
      exact HNA.out _ ((Chg.refl NoF w2).drew)

set_option maxHeartbeats 1000000 in
set_option maxRecDepth 100000 in
theorem do_any (S : Nat → Prop) (w : World) (t : Nat) (s : BNet) (h : BIn S w t s) (hs : BInv s) (k : Int) :
    Calls Tryd.prog 19 #[.pointer (some ⟨t, 0, none⟩), .int .i64 k] w (BDoPost S w t (s.err k) (s.act k)) := by
  by_cases hk : k < 0 ∨ 6 < k
  · have HE : Hid (s.err k = 1) := Lib.hid (by unfold BNet.err; rw [if_pos hk])
    have HA : Hid (s.act k = s) := Lib.hid (by unfold BNet.act; rw [if_neg (by rw [HE.out]; decide)])
    have HH := Lib.hid h
    have hin : inB k 0 6 = false := by
      cases h : inB k 0 6 with
      | false => rfl
      | true => simp [inB] at h; omega
    clear h hs hk
    go_enter Tryd.func19, Tryd.ntmps19
    go_wp2_with fail
    refine (within_any _ _ _ _).mono ?_
    rintro e w' ⟨rfl, rfl⟩
    rw [hin]
    go_wp2
    go_ret
    exact ⟨by rw [HE.out]; rfl, by rw [HA.out]; exact HH.out, Chg.refl _ _⟩
  · have hc : k = 0 ∨ k = 1 ∨ k = 2 ∨ k = 3 ∨ k = 4 ∨ k = 5 ∨ k = 6 := by omega
    rcases hc with rfl | rfl | rfl | rfl | rfl | rfl | rfl
    · exact do0 S w t s h hs
    · exact do1 S w t s h hs
    · exact do2 S w t s h hs
    · exact do3 S w t s h hs
    · exact do4 S w t s h hs
    · exact do5 S w t s h hs
    · exact do6 S w t s h hs

end Go.Proofs.YtgpjjbfmckcjgaaDoor
