/-
  The line over two wires: a frame is sent; a frame is doubled.
  Conditions: a line as New made it.
-/
import Derived.Test.YtgpjjbfmckcjgaaDoorBtC
namespace Go.Proofs.YtgpjjbfmckcjgaaDoor
open Go Go.RowKit

set_option maxHeartbeats 8000000 in
set_option maxRecDepth 100000 in
theorem do0 (S : Nat → Prop) (w : World) (t : Nat) (s : BNet) (h : BIn S w t s) (hs : BInv s) :
    Calls Tryd.prog 19 #[.pointer (some ⟨t, 0, none⟩), .int .i64 0] w (BDoPost S w t (s.err 0) (s.act 0)) := by
  obtain ⟨V, tag, hA⟩ := h
  have HA := Lib.hid hA
  have HS := Lib.hid hs
  obtain ⟨fa, fc, vF⟩ := hA.val0 .forth
  obtain ⟨ka, kc, vB⟩ := hA.val0 .back
  obtain ⟨ga, gc, vG⟩ := hA.val0 .got
  obtain ⟨va, vc, vV⟩ := hA.val0 .vals
  have vF : V .forth = .slice fa s.forth.length fc := vF
  have vB : V .back = .slice ka s.back.length kc := vB
  have vG : V .got = .slice ga s.got.length gc := vG
  have vV : V .vals = .slice va s.vals.length vc := vV
  have c0 : w.cell? ⟨t, 0, none⟩ = some (V .vals) := hA.blk.cell 0
  have c1 : w.cell? ⟨t, 1, none⟩ = some (.int .i64 s.sent) := hA.blk.cell 1
  have c2 : w.cell? ⟨t, 2, none⟩ = some (V .got) := hA.blk.cell 2
  have c3 : w.cell? ⟨t, 3, none⟩ = some (V .forth) := hA.blk.cell 3
  have c4 : w.cell? ⟨t, 4, none⟩ = some (V .back) := hA.blk.cell 4
  have HVF := Lib.hid vF
  have HVB := Lib.hid vB
  have HVG := Lib.hid vG
  have HVV := Lib.hid vV
  rw [vF] at c3
  rw [vB] at c4
  rw [vG] at c2
  rw [vV] at c0
  obtain ⟨fn, HFN⟩ : ∃ fn, Hid (s.forth.length = fn) := ⟨_, Lib.hid rfl⟩
  obtain ⟨bn, HBN⟩ : ∃ bn, Hid (s.back.length = bn) := ⟨_, Lib.hid rfl⟩
  obtain ⟨gn, HGN⟩ : ∃ gn, Hid (s.got.length = gn) := ⟨_, Lib.hid rfl⟩
  obtain ⟨m, HVN⟩ : ∃ m, Hid (s.vals.length = m) := ⟨_, Lib.hid rfl⟩
  obtain ⟨q, HQN⟩ : ∃ q, Hid (s.sent = q) := ⟨_, Lib.hid rfl⟩
  rw [HFN.out] at c3 HVF
  rw [HBN.out] at c4 HVB
  rw [HGN.out] at c2 HVG
  rw [HVN.out] at c0 HVV
  rw [HQN.out] at c1
  have hf8 : fn ≤ 8 := by rw [← HFN.out]; exact hs.f8
  have hb8 : bn ≤ 8 := by rw [← HBN.out]; exact hs.b8
  have hm20 : m ≤ 20 := by rw [← HVN.out]; exact hs.v20
  have hgm : gn ≤ m := by rw [← HGN.out, ← HVN.out]; exact hs.gle
  have hqm : q ≤ m := by rw [← HQN.out, ← HVN.out]; exact hs.sle
  have BAD : Hid (∀ x w', s.err 0 = x → x ≠ 0 → Chg NoF w w' → BDoPost S w t (s.err 0) (s.act 0) (.returned (errV x)) w') := Lib.hid fun x w' he hx hc => by
    have h1 : s.act 0 = s := by unfold BNet.act; rw [if_neg (by rw [he]; exact hx)]
    rw [h1, he]
    exact ⟨rfl, ⟨V, tag, HA.out.more hc⟩, hc.ofNo⟩
  clear hA vF vB vG vV hs
  have hrv : Rd (fun _ => True) w (.slice va m vc) s.vals := by
    have h := Rd.ofOwns (S := fun _ => True) (HA.out.row .vals) (fun _ _ => trivial)
    have e : (s.rows V .vals).v = .slice va m vc := by
      have : w.cell? ⟨t, 0, none⟩ = some (V .vals) := HA.out.blk.cell 0
      rw [c0] at this
      exact (Option.some.inj this).symm
    rw [e] at h; exact h
  by_cases e1 : q = m
  · have HE : Hid (s.err 0 = 5) := Lib.hid (by rw [err0, if_pos (by rw [HQN.out, HVN.out]; exact e1)])
    have hqm1 : ((q : Int) == m) = true := by rw [beq_iff_eq]; omega
    clear e1 hqm c2 c4
    go_enter Tryd.func19, Tryd.ntmps19
    go_wp2_with fail
    refine (within_any _ _ _ _).mono ?_
    rintro e w' ⟨rfl, rfl⟩
    rw [show inB 0 0 6 = true from rfl]
    go_wp2_with fail
    refine wp_region_plan (Chg NoF w) 10 [(0,true),(1,true),(2,true),(3,true),(4,true),(5,true),(6,true),(7,true),(8,true),(9,true)] mixed (by kernel_rfl) (Chg.refl _ _).drew ?_
    simp only [planOps, List.map_cons, List.map_nil, List.getElem?_cons_zero, List.getElem?_cons_succ, Option.getD_some]
    generalize hops : List.toArray _ = ops
    iterate 10 (refine wpPlan_quiet (v := ?_) rfl (fun _ _ _ h => h) (by intro w1 hS; have s0 := hS.cell_some c1 (fun h => h); have s1 := hS.cell_some c0 (fun h => h); clear hS; go_simp; with_reducible rfl) ?_; (simp only [Act.put, List.setIfInBounds_toArray, List.set_cons_zero, List.set_cons_succ]))
    clear hops
    refine wpPlan_nil ?_
    go_wp2
    go_ret
    exact BAD.out 5 _ HE.out (by decide) ((Chg.refl _ _).drew)
  have hqm1 : ((q : Int) == m) = false := by rw [beq_eq_false_iff_ne]; omega
  by_cases e2 : 8 ≤ fn
  · have HE : Hid (s.err 0 = 4) := Lib.hid (by rw [err0, if_neg (by rw [HQN.out, HVN.out]; exact e1), if_pos (by rw [HFN.out]; exact e2)])
    have h8 : (8 : Int) ≤ fn := by omega
    clear e1 hqm c2 c4
    go_enter Tryd.func19, Tryd.ntmps19
    go_wp2_with fail
    refine (within_any _ _ _ _).mono ?_
    rintro e w' ⟨rfl, rfl⟩
    rw [show inB 0 0 6 = true from rfl]
    go_wp2_with fail
    refine wp_region_plan (Chg NoF w) 10 [(0,true),(1,true),(2,true),(3,true),(4,true),(5,true),(6,true),(7,true),(8,true),(9,true)] mixed (by kernel_rfl) (Chg.refl _ _).drew ?_
    simp only [planOps, List.map_cons, List.map_nil, List.getElem?_cons_zero, List.getElem?_cons_succ, Option.getD_some]
    generalize hops : List.toArray _ = ops
    iterate 10 (refine wpPlan_quiet (v := ?_) rfl (fun _ _ _ h => h) (by intro w1 hS; have s0 := hS.cell_some c1 (fun h => h); have s1 := hS.cell_some c0 (fun h => h); clear hS; go_simp; with_reducible rfl) ?_; (simp only [Act.put, List.setIfInBounds_toArray, List.set_cons_zero, List.set_cons_succ]))
    clear hops
    refine wpPlan_nil ?_
    have c3 : w.drew.cell? ⟨t, 3, none⟩ = some (.slice fa fn fc) := c3
    have HC1 : Hid (Chg NoF w w.drew) := Lib.hid ((Chg.refl _ _).drew)
    clear c0 c1
    generalize w.drew = w1 at *
    go_wp2
    go_ret
    exact BAD.out 4 _ HE.out (by decide) HC1.out
  have HE : Hid (s.err 0 = 0) := Lib.hid (by rw [err0, if_neg (by rw [HQN.out, HVN.out]; exact e1), if_neg (by rw [HFN.out]; exact e2)])
  have h8 : ¬ (8 : Int) ≤ fn := by omega
  have hq1 : (q : Int) < m := by omega
  obtain ⟨bV, oV, cV, eV, -, hcv⟩ := hrv.form (by rw [HVN.out]; omega)
  rw [HVN.out] at eV hcv
  simp only [Value.slice.injEq] at eV
  obtain ⟨rfl, -, rfl⟩ := eV
  have dv := hcv q (by omega)
  obtain ⟨x, HX⟩ : ∃ x, Hid (s.vals.getD q 0 = x) := ⟨_, Lib.hid rfl⟩
  rw [HX.out] at dv
  have hact : Hid (s.act 0 = { s with forth := s.forth ++ [(q % 2, x)] }) := Lib.hid (by unfold BNet.act; rw [if_pos HE.out, ← HX.out, ← HQN.out]; rfl)
  have hrow : Hid (w.ownsRow 0 69 2 (.slice fa fn fc) fn (fcells s.forth)) := Lib.hid (by
    have h : w.ownsRow 0 69 2 (V .forth) s.forth.length (fcells s.forth) := HA.out.row .forth
    rw [HVF.out, HFN.out] at h; exact h)
  have nt : ¬ (V .forth).ownBlock = some t := HA.out.tne (i := .forth)
  have HNS : Hid (∀ b, (V .forth).ownBlock = some b → ¬ S b) := Lib.hid (fun b hb => HA.out.notS (i := .forth) hb)
  have f3 := HA.out.blk.frozen 3
  have tlt := HA.out.blk.lt
  have HTS := Lib.hid HA.out.tNotS
  have ngV : ¬ (V .forth).ownBlock = some bV := HA.out.ne (i := .vals) (j := .forth) (by simp) (by show (V .vals).ownBlock = _; rw [HVV.out]; rfl)
  rw [HVF.out] at nt ngV HNS
  have hrem : Int.tmod (q : Int) 2 = ((q % 2 : Nat) : Int) := by rw [Int.tmod_eq_emod_of_nonneg (Int.natCast_nonneg q)]; omega
  clear e1 e2 hqm c2 c4 hcv hrv
  go_enter Tryd.func19, Tryd.ntmps19
  go_wp2_with fail
  refine (within_any _ _ _ _).mono ?_
  rintro e w' ⟨rfl, rfl⟩
  rw [show inB 0 0 6 = true from rfl]
  go_wp2_with fail
  refine wp_region_plan (Chg NoF w) 10 [(0,true),(1,true),(2,true),(3,true),(4,true),(5,true),(6,true),(7,true),(8,true),(9,true)] mixed (by kernel_rfl) (Chg.refl _ _).drew ?_
  simp only [planOps, List.map_cons, List.map_nil, List.getElem?_cons_zero, List.getElem?_cons_succ, Option.getD_some]
  generalize hops : List.toArray _ = ops
  iterate 10 (refine wpPlan_quiet (v := ?_) rfl (fun _ _ _ h => h) (by intro w1 hS; have s0 := hS.cell_some c1 (fun h => h); have s1 := hS.cell_some c0 (fun h => h); clear hS; go_simp; with_reducible rfl) ?_; (simp only [Act.put, List.setIfInBounds_toArray, List.set_cons_zero, List.set_cons_succ]))
  clear hops
  refine wpPlan_nil ?_
  have c3 : w.drew.cell? ⟨t, 3, none⟩ = some (.slice fa fn fc) := c3
  have c1 : w.drew.cell? ⟨t, 1, none⟩ = some (.int .i64 q) := c1
  have c0 : w.drew.cell? ⟨t, 0, none⟩ = some (.slice (some ⟨bV, oV, none⟩) m vc) := c0
  have dv : w.drew.cell? ⟨bV, oV + q, none⟩ = some (.int .i64 x) := dv
  have HC1 : Hid (Chg NoF w w.drew) := Lib.hid ((Chg.refl _ _).drew)
  have f3 : w.drew.frozen? ⟨t, 3, none⟩ = false := f3
  have tlt : t < w.drew.heap.size := tlt
  generalize w.drew = w1 at *
  go_wp2_with fail
  refine wp_region_plan (Chg (fun b => (Value.slice fa fn fc).ownBlock = some b) w1) 25 [(0,true),(1,true),(2,true),(3,true),(4,true),(5,true),(6,true),(7,true),(8,true),(9,true),(10,true),(11,true),(12,true),(13,true),(14,true),(15,true),(16,true),(17,true),(18,true),(19,true),(20,true),(21,false),(22,false),(23,true),(24,true),(25,false)] mixed (by kernel_rfl) (Chg.refl _ _).drew ?_
  simp only [planOps, List.map_cons, List.map_nil, List.getElem?_cons_zero, List.getElem?_cons_succ, Option.getD_some]
  generalize hops : List.toArray _ = ops
  iterate 21 (refine wpPlan_quiet (v := ?_) rfl (fun _ _ _ h => h) (by intro w1 hS; have s0 := hS.cell_some c3 nt; have s1 := hS.cell_some c1 nt; have s2 := hS.cell_some c0 nt; have s3 := hS.cell_some dv ngV; clear hS; go_simp; with_reducible rfl) ?_; (simp only [Act.put, List.setIfInBounds_toArray, List.set_cons_zero, List.set_cons_succ]))
  refine wpPlan_loud rfl (fun K hK => ?_)
  go_simp
  refine hK _ _ (fun _ => (((Chg.refl NoF w1).drew).alloc _).ofNo) ?_
  clear hK K
  (try simp only [Act.put, List.setIfInBounds_toArray, List.set_cons_zero, List.set_cons_succ])
  refine wpPlan_loud rfl (fun K hK => ?_)
  refine wp_app _ _ 63 rfl 69 (.agg #[.int .i64 0, .int .i64 0]) 2 16 infoFrame Tryd.underlying63 rfl (by decide) (.slice fa fn fc) fn _ (by rfl) ((((Chg.refl NoF w1).drew).alloc _).row (HC1.out.row hrow.out (fun _ _ hf => hf)) (fun _ _ hf => hf)) w1.heap.size 1 [.int .i64 ((q % 2 : Nat) : Int), .int .i64 x] (by rfl) ⟨69, (0, 0), heap_alloc_new w1.drew _⟩ rfl (by simp [Value.oneCell']) (by omega) (by omega) ?_
  intro g4 cap4 w4 hown4 hc4 hat4 hlt4
  have hc5 : Chg (fun b => (Value.slice fa fn fc).ownBlock = some b) w1 w4 := ((((Chg.refl NoF w1).drew).alloc _).ofNo).trans hc4
  refine hK _ _ (fun _ => hc5) ?_
  clear hK K
  (try simp only [Act.put, List.setIfInBounds_toArray, List.set_cons_zero, List.set_cons_succ])
  iterate 2 (refine wpPlan_quiet (v := ?_) rfl (fun _ _ _ h => h) (by intro w1 hS; have s0 := hS.cell_some c3 nt; clear hS; go_simp; with_reducible rfl) ?_; (simp only [Act.put, List.setIfInBounds_toArray, List.set_cons_zero, List.set_cons_succ]))
  refine wpPlan_loud rfl (fun K hK => ?_)
  have s2 := hc5.cell_some c3 nt
  have f2 : w4.frozen? ⟨t, 3, none⟩ = false := by rw [World.frozen?_of_block (hc5.block t tlt nt)]; exact f3
  go_simp
  refine hK _ _ (fun h => absurd rfl h) ?_
  clear hK K
  clear hops
  refine wpPlan_nil ?_
  have hz1 : w.heap.size ≤ w1.heap.size := HC1.out.size
  have HI : Hid (BIn S (w4.setCell ⟨t, 3, none⟩ (.slice (some ⟨g4, 0, none⟩) (fn + 1) cap4)) t { s with forth := s.forth ++ [(q % 2, x)] }) := Lib.hid (BAt.put (s' := { s with forth := s.forth ++ [(q % 2, x)] }) HA.out .forth HC1.out (by rw [HVF.out]; exact hc5) _ _ _ _ _ hown4 (fun b hb => by
    rw [HVF.out]
    rcases hat4 b hb with h | h
    · exact .inl h
    · right; simp at h; omega) (by
      show (⟨_, _, upd V .forth _ .forth, (s.forth ++ [(q % 2, x)]).length, fcells (s.forth ++ [(q % 2, x)])⟩ : Sl) = _
      rw [upd_self, fcells_append, List.length_append, HFN.out]; rfl) (fun j hj => by cases j <;> first | exact absurd rfl hj | rfl) rfl)
  have HC : Hid (Chg (fun k => ¬ S k) w (w4.setCell ⟨t, 3, none⟩ (.slice (some ⟨g4, 0, none⟩) (fn + 1) cap4))) := Lib.hid ((HC1.out.ofNo.trans (hc5.mono fun b _ hb => HNS.out b hb)).setCell (.inl HTS.out) _)
  clear hc5 hown4 hat4 hlt4 hc4 c0 c1 c3 dv f3 tlt nt ngV s2 f2
  generalize w4.setCell ⟨t, 3, none⟩ _ = w5 at *
  go_wp2
  go_ret
  exact ⟨by rw [HE.out]; rfl, by rw [hact.out]; exact HI.out, HC.out⟩

set_option maxHeartbeats 8000000 in
set_option maxRecDepth 100000 in
theorem do3 (S : Nat → Prop) (w : World) (t : Nat) (s : BNet) (h : BIn S w t s) (hs : BInv s) :
    Calls Tryd.prog 19 #[.pointer (some ⟨t, 0, none⟩), .int .i64 3] w (BDoPost S w t (s.err 3) (s.act 3)) := by
  obtain ⟨V, tag, hA⟩ := h
  have HA := Lib.hid hA
  have HS := Lib.hid hs
  obtain ⟨fa, fc, vF⟩ := hA.val0 .forth
  obtain ⟨ka, kc, vB⟩ := hA.val0 .back
  obtain ⟨ga, gc, vG⟩ := hA.val0 .got
  obtain ⟨va, vc, vV⟩ := hA.val0 .vals
  have vF : V .forth = .slice fa s.forth.length fc := vF
  have vB : V .back = .slice ka s.back.length kc := vB
  have vG : V .got = .slice ga s.got.length gc := vG
  have vV : V .vals = .slice va s.vals.length vc := vV
  have c0 : w.cell? ⟨t, 0, none⟩ = some (V .vals) := hA.blk.cell 0
  have c1 : w.cell? ⟨t, 1, none⟩ = some (.int .i64 s.sent) := hA.blk.cell 1
  have c2 : w.cell? ⟨t, 2, none⟩ = some (V .got) := hA.blk.cell 2
  have c3 : w.cell? ⟨t, 3, none⟩ = some (V .forth) := hA.blk.cell 3
  have c4 : w.cell? ⟨t, 4, none⟩ = some (V .back) := hA.blk.cell 4
  have HVF := Lib.hid vF
  have HVB := Lib.hid vB
  have HVG := Lib.hid vG
  have HVV := Lib.hid vV
  rw [vF] at c3
  rw [vB] at c4
  rw [vG] at c2
  rw [vV] at c0
  obtain ⟨fn, HFN⟩ : ∃ fn, Hid (s.forth.length = fn) := ⟨_, Lib.hid rfl⟩
  obtain ⟨bn, HBN⟩ : ∃ bn, Hid (s.back.length = bn) := ⟨_, Lib.hid rfl⟩
  obtain ⟨gn, HGN⟩ : ∃ gn, Hid (s.got.length = gn) := ⟨_, Lib.hid rfl⟩
  obtain ⟨m, HVN⟩ : ∃ m, Hid (s.vals.length = m) := ⟨_, Lib.hid rfl⟩
  obtain ⟨q, HQN⟩ : ∃ q, Hid (s.sent = q) := ⟨_, Lib.hid rfl⟩
  rw [HFN.out] at c3 HVF
  rw [HBN.out] at c4 HVB
  rw [HGN.out] at c2 HVG
  rw [HVN.out] at c0 HVV
  rw [HQN.out] at c1
  have hf8 : fn ≤ 8 := by rw [← HFN.out]; exact hs.f8
  have hb8 : bn ≤ 8 := by rw [← HBN.out]; exact hs.b8
  have hm20 : m ≤ 20 := by rw [← HVN.out]; exact hs.v20
  have hgm : gn ≤ m := by rw [← HGN.out, ← HVN.out]; exact hs.gle
  have hqm : q ≤ m := by rw [← HQN.out, ← HVN.out]; exact hs.sle
  have BAD : Hid (∀ x w', s.err 3 = x → x ≠ 0 → Chg NoF w w' → BDoPost S w t (s.err 3) (s.act 3) (.returned (errV x)) w') := Lib.hid fun x w' he hx hc => by
    have h1 : s.act 3 = s := by unfold BNet.act; rw [if_neg (by rw [he]; exact hx)]
    rw [h1, he]
    exact ⟨rfl, ⟨V, tag, HA.out.more hc⟩, hc.ofNo⟩
  clear hA vF vB vG vV hs
  by_cases e1 : fn = 0
  · have HE : Hid (s.err 3 = 5) := Lib.hid (by rw [err3, if_pos (by rw [HFN.out]; exact e1)])
    subst e1
    clear c0 c1 c2
    go_enter Tryd.func19, Tryd.ntmps19
    go_wp2_with fail
    refine (within_any _ _ _ _).mono ?_
    rintro e w' ⟨rfl, rfl⟩
    rw [show inB 3 0 6 = true from rfl]
    go_wp2
    go_ret
    exact BAD.out 5 _ HE.out (by decide) (Chg.refl _ _)
  have hz : ((fn : Int) == 0) = false := by rw [beq_eq_false_iff_ne]; omega
  by_cases e2 : 8 ≤ fn
  · have HE : Hid (s.err 3 = 4) := Lib.hid (by rw [err3, if_neg (by rw [HFN.out]; exact e1), if_pos (by rw [HFN.out]; exact e2)])
    have h8 : (8 : Int) ≤ fn := by omega
    clear e1 e2 c0 c1 c2
    go_enter Tryd.func19, Tryd.ntmps19
    go_wp2_with fail
    refine (within_any _ _ _ _).mono ?_
    rintro e w' ⟨rfl, rfl⟩
    rw [show inB 3 0 6 = true from rfl]
    go_wp2
    go_ret
    exact BAD.out 4 _ HE.out (by decide) (Chg.refl _ _)
  have HE : Hid (s.err 3 = 0) := Lib.hid (by rw [err3, if_neg (by rw [HFN.out]; exact e1), if_neg (by rw [HFN.out]; exact e2)])
  have h8 : ¬ (8 : Int) ≤ fn := by omega
  have HL0 : Hid (¬ s.forth.length = 0) := Lib.hid (by rw [HFN.out]; exact e1)
  obtain ⟨b, x, r, hf⟩ : ∃ b x r, s.forth = (b, x) :: r := ⟨_, _, _, cons_of_len HL0.out (0, 0)⟩
  have hact : Hid (s.act 3 = { s with forth := (b, x) :: s.forth }) := Lib.hid (by
    unfold BNet.act; rw [if_pos HE.out]
    have h : s.pass 3 = { s with forth := (s.fbit, s.fval) :: s.forth } := rfl
    rw [h]; unfold BNet.fbit BNet.fval; rw [hf]; rfl)
  obtain ⟨g, cap, hv, hgb, hglt, -, -⟩ := HA.out.val .forth (show 0 < s.forth.length by have := HL0.out; omega)
  have hv : V .forth = .slice (some ⟨g, 0, none⟩) s.forth.length cap := hv
  have hgb : (V .forth).ownBlock = some g := hgb
  have e0 := HVF.out
  rw [hv] at e0
  simp only [Value.slice.injEq] at e0
  obtain ⟨rfl, -, rfl⟩ := e0
  have HROW : Hid (w.ownsRow 0 69 2 (.slice (some ⟨g, 0, none⟩) fn cap) fn (fcells (s.forth))) := Lib.hid (by
    have h : w.ownsRow 0 69 2 (V .forth) s.forth.length (fcells (s.forth)) := HA.out.row .forth
    rw [hv, HFN.out] at h; exact h)
  have hcell : ∀ j, j < fn * 2 → w.cell? ⟨g, j, none⟩ = (fcells (s.forth))[j]? := fun j hj => HROW.out.cellAt j hj
  have d0 : w.cell? ⟨g, 0, none⟩ = some (.int .i64 b) := by rw [hcell 0 (by omega), hf]; rfl
  have d1 : w.cell? ⟨g, 1, none⟩ = some (.int .i64 x) := by rw [hcell 1 (by omega), hf]; rfl
  have nt : ¬ (Value.slice (some ⟨g, 0, none⟩) fn cap).ownBlock = some t := fun e => HA.out.tne (i := .forth) (by
    have e : some g = some t := e
    rw [← e]; exact hgb)
  have HNS : Hid (∀ b, (V .forth).ownBlock = some b → ¬ S b) := Lib.hid (fun b hb => HA.out.notS (i := .forth) hb)
  have fS := HA.out.blk.frozen 3
  have tlt := HA.out.blk.lt
  have HTS := Lib.hid HA.out.tNotS
  have HGL : Hid (g < w.heap.size) := Lib.hid hglt
  have hgo : (V .forth).ownBlock = (Value.slice (some ⟨g, 0, none⟩) fn cap).ownBlock := by rw [hgb]; rfl
  have HGO := Lib.hid hgo
  have hl0 : (0 : Int) < fn := by omega
  have hl1 : 0 < fn := by omega
  clear e1 e2 hcell hv hgb hglt c0 c1 c2 hgo
  go_enter Tryd.func19, Tryd.ntmps19
  go_wp2_with fail
  refine (within_any _ _ _ _).mono ?_
  rintro e w' ⟨rfl, rfl⟩
  rw [show inB 3 0 6 = true from rfl]
  go_wp2_with fail
  refine wp_region_plan (fun w' => Chg (fun b => (Value.slice (some ⟨g, 0, none⟩) fn cap).ownBlock = some b) w w' ∧ w'.cell? ⟨g, 0, none⟩ = some (.int .i64 b) ∧ w'.cell? ⟨g, 1, none⟩ = some (.int .i64 x)) 12 [(0,true),(1,true),(2,true),(3,true),(4,true),(5,true),(6,true),(7,true),(8,true),(9,false),(10,false),(11,true),(12,false)] mixed (by kernel_rfl) ⟨(Chg.refl _ _).drew, d0, d1⟩ ?_
  simp only [planOps, List.map_cons, List.map_nil, List.getElem?_cons_zero, List.getElem?_cons_succ, Option.getD_some]
  generalize hops : List.toArray _ = ops
  iterate 9 (refine wpPlan_quiet (v := ?_) rfl (fun _ _ _ h => h) (by intro w1 hS; have s0 := hS.1.cell_some c3 nt; have s1 := hS.2.1; have s2 := hS.2.2; clear hS; go_simp; with_reducible rfl) ?_; (simp only [Act.put, List.setIfInBounds_toArray, List.set_cons_zero, List.set_cons_succ]))
  refine wpPlan_loud rfl (fun K hK => ?_)
  go_simp
  have hcA : Chg NoF w (w.drew.alloc (.cells #[.int .i64 b, .int .i64 x] 69)) := ((Chg.refl NoF w).drew).alloc _
  refine hK _ _ (fun _ => ⟨hcA.ofNo, hcA.cell_some d0 (fun h => h), hcA.cell_some d1 (fun h => h)⟩) ?_
  clear hK K
  (try simp only [Act.put, List.setIfInBounds_toArray, List.set_cons_zero, List.set_cons_succ])
  refine wpPlan_loud rfl (fun K hK => ?_)
  go_simp
  refine (insert_any (w.drew.alloc (.cells #[.int .i64 b, .int .i64 x] 69)) _ fn (fcells (s.forth)) (.int .i64 b) (.int .i64 x) w.heap.size 1 (hcA.row HROW.out (fun _ _ h => h)) (by omega) (by omega) (Blk.alloc w.drew [.int .i64 b, .int .i64 x] 69) (fun e => by
    have e : some g = some w.heap.size := e
    have := HGL.out
    injection e with e; omega) rfl rfl (fcells_one _)).mono ?_
  rintro e w4 ⟨v', rfl, hown4, hc4, hb4, hcell4⟩
  obtain ⟨va', vc', rfl⟩ := owns_val hown4
  have hc5 : Chg (fun b => (Value.slice (some ⟨g, 0, none⟩) fn cap).ownBlock = some b) w w4 := hcA.ofNo.trans hc4
  refine hK _ _ (fun _ => ⟨hc5, hcell4 g rfl 0 _ (by omega) rfl (hcA.cell_some d0 (fun h => h)), hcell4 g rfl 1 _ (by omega) rfl (hcA.cell_some d1 (fun h => h))⟩) ?_
  clear hK K
  (try simp only [Act.put, List.setIfInBounds_toArray, List.set_cons_zero, List.set_cons_succ])
  iterate 1 (refine wpPlan_quiet (v := ?_) rfl (fun _ _ _ h => h) (by intro w1 hS; clear hS; go_simp; with_reducible rfl) ?_; (simp only [Act.put, List.setIfInBounds_toArray, List.set_cons_zero, List.set_cons_succ]))
  refine wpPlan_loud rfl (fun K hK => ?_)
  have s2 := hc5.cell_some c3 nt
  have f2 : w4.frozen? ⟨t, 3, none⟩ = false := by rw [World.frozen?_of_block (hc5.block t tlt nt)]; exact fS
  go_simp
  refine hK _ _ (fun h => absurd rfl h) ?_
  clear hK K
  clear hops
  refine wpPlan_nil ?_
  have HI : Hid (BIn S (w4.setCell ⟨t, 3, none⟩ (.slice va' (fn + 1) vc')) t { s with forth := (b, x) :: s.forth }) := Lib.hid (BAt.put (s' := { s with forth := (b, x) :: s.forth }) (w1 := w.drew.alloc (.cells #[.int .i64 b, .int .i64 x] 69)) HA.out .forth hcA (by rw [HGO.out]; exact hc4) _ _ _ _ _ hown4 (fun b hb => by
    rw [HGO.out]; exact hb4 b hb) (by
      show (⟨_, _, upd V .forth _ .forth, ((b, x) :: s.forth).length, fcells ((b, x) :: s.forth)⟩ : Sl) = _
      rw [upd_self, List.length_cons, HFN.out]; rfl) (fun j hj => by cases j <;> first | exact absurd rfl hj | rfl) rfl)
  have HC : Hid (Chg (fun k => ¬ S k) w (w4.setCell ⟨t, 3, none⟩ (.slice va' (fn + 1) vc'))) := Lib.hid ((hc5.mono fun b _ hb => HNS.out b (by rw [HGO.out]; exact hb)).setCell (.inl HTS.out) _)
  clear hc5 hown4 hc4 hb4 hcell4 c3 d0 d1 fS tlt nt s2 f2 hcA
  generalize w4.setCell ⟨t, 3, none⟩ _ = w5 at *
  go_wp2
  go_ret
  exact ⟨by rw [HE.out]; rfl, by rw [hact.out]; exact HI.out, HC.out⟩

set_option maxHeartbeats 8000000 in
set_option maxRecDepth 100000 in
theorem do6 (S : Nat → Prop) (w : World) (t : Nat) (s : BNet) (h : BIn S w t s) (hs : BInv s) :
    Calls Tryd.prog 19 #[.pointer (some ⟨t, 0, none⟩), .int .i64 6] w (BDoPost S w t (s.err 6) (s.act 6)) := by
  obtain ⟨V, tag, hA⟩ := h
  have HA := Lib.hid hA
  have HS := Lib.hid hs
  obtain ⟨fa, fc, vF⟩ := hA.val0 .forth
  obtain ⟨ka, kc, vB⟩ := hA.val0 .back
  obtain ⟨ga, gc, vG⟩ := hA.val0 .got
  obtain ⟨va, vc, vV⟩ := hA.val0 .vals
  have vF : V .forth = .slice fa s.forth.length fc := vF
  have vB : V .back = .slice ka s.back.length kc := vB
  have vG : V .got = .slice ga s.got.length gc := vG
  have vV : V .vals = .slice va s.vals.length vc := vV
  have c0 : w.cell? ⟨t, 0, none⟩ = some (V .vals) := hA.blk.cell 0
  have c1 : w.cell? ⟨t, 1, none⟩ = some (.int .i64 s.sent) := hA.blk.cell 1
  have c2 : w.cell? ⟨t, 2, none⟩ = some (V .got) := hA.blk.cell 2
  have c3 : w.cell? ⟨t, 3, none⟩ = some (V .forth) := hA.blk.cell 3
  have c4 : w.cell? ⟨t, 4, none⟩ = some (V .back) := hA.blk.cell 4
  have HVF := Lib.hid vF
  have HVB := Lib.hid vB
  have HVG := Lib.hid vG
  have HVV := Lib.hid vV
  rw [vF] at c3
  rw [vB] at c4
  rw [vG] at c2
  rw [vV] at c0
  obtain ⟨fn, HFN⟩ : ∃ fn, Hid (s.forth.length = fn) := ⟨_, Lib.hid rfl⟩
  obtain ⟨bn, HBN⟩ : ∃ bn, Hid (s.back.length = bn) := ⟨_, Lib.hid rfl⟩
  obtain ⟨gn, HGN⟩ : ∃ gn, Hid (s.got.length = gn) := ⟨_, Lib.hid rfl⟩
  obtain ⟨m, HVN⟩ : ∃ m, Hid (s.vals.length = m) := ⟨_, Lib.hid rfl⟩
  obtain ⟨q, HQN⟩ : ∃ q, Hid (s.sent = q) := ⟨_, Lib.hid rfl⟩
  rw [HFN.out] at c3 HVF
  rw [HBN.out] at c4 HVB
  rw [HGN.out] at c2 HVG
  rw [HVN.out] at c0 HVV
  rw [HQN.out] at c1
  have hf8 : fn ≤ 8 := by rw [← HFN.out]; exact hs.f8
  have hb8 : bn ≤ 8 := by rw [← HBN.out]; exact hs.b8
  have hm20 : m ≤ 20 := by rw [← HVN.out]; exact hs.v20
  have hgm : gn ≤ m := by rw [← HGN.out, ← HVN.out]; exact hs.gle
  have hqm : q ≤ m := by rw [← HQN.out, ← HVN.out]; exact hs.sle
  have BAD : Hid (∀ x w', s.err 6 = x → x ≠ 0 → Chg NoF w w' → BDoPost S w t (s.err 6) (s.act 6) (.returned (errV x)) w') := Lib.hid fun x w' he hx hc => by
    have h1 : s.act 6 = s := by unfold BNet.act; rw [if_neg (by rw [he]; exact hx)]
    rw [h1, he]
    exact ⟨rfl, ⟨V, tag, HA.out.more hc⟩, hc.ofNo⟩
  clear hA vF vB vG vV hs
  by_cases e1 : bn = 0
  · have HE : Hid (s.err 6 = 5) := Lib.hid (by rw [err6, if_pos (by rw [HBN.out]; exact e1)])
    subst e1
    clear c0 c1 c2
    go_enter Tryd.func19, Tryd.ntmps19
    go_wp2_with fail
    refine (within_any _ _ _ _).mono ?_
    rintro e w' ⟨rfl, rfl⟩
    rw [show inB 6 0 6 = true from rfl]
    go_wp2
    go_ret
    exact BAD.out 5 _ HE.out (by decide) (Chg.refl _ _)
  have hz : ((bn : Int) == 0) = false := by rw [beq_eq_false_iff_ne]; omega
  by_cases e2 : 8 ≤ bn
  · have HE : Hid (s.err 6 = 4) := Lib.hid (by rw [err6, if_neg (by rw [HBN.out]; exact e1), if_pos (by rw [HBN.out]; exact e2)])
    have h8 : (8 : Int) ≤ bn := by omega
    clear e1 e2 c0 c1 c2
    go_enter Tryd.func19, Tryd.ntmps19
    go_wp2_with fail
    refine (within_any _ _ _ _).mono ?_
    rintro e w' ⟨rfl, rfl⟩
    rw [show inB 6 0 6 = true from rfl]
    go_wp2
    go_ret
    exact BAD.out 4 _ HE.out (by decide) (Chg.refl _ _)
  have HE : Hid (s.err 6 = 0) := Lib.hid (by rw [err6, if_neg (by rw [HBN.out]; exact e1), if_neg (by rw [HBN.out]; exact e2)])
  have h8 : ¬ (8 : Int) ≤ bn := by omega
  have HL0 : Hid (¬ s.back.length = 0) := Lib.hid (by rw [HBN.out]; exact e1)
  obtain ⟨b, r, hb0⟩ : ∃ b r, s.back = b :: r := ⟨_, _, cons_of_len HL0.out 0⟩
  obtain ⟨x, hx0⟩ : ∃ x : Int, x = 0 := ⟨_, rfl⟩
  have hf : zip0 s.back = (b, x) :: zip0 r := by rw [hb0, hx0]; rfl
  have HX0 := Lib.hid hx0
  clear hx0
  have hact : Hid (s.act 6 = { s with back := b :: s.back }) := Lib.hid (by
    unfold BNet.act; rw [if_pos HE.out]
    have h : s.pass 6 = { s with back := s.bbit :: s.back } := rfl
    rw [h]; unfold BNet.bbit; rw [hb0]; rfl)
  obtain ⟨g, cap, hv, hgb, hglt, -, -⟩ := HA.out.val .back (show 0 < s.back.length by have := HL0.out; omega)
  have hv : V .back = .slice (some ⟨g, 0, none⟩) s.back.length cap := hv
  have hgb : (V .back).ownBlock = some g := hgb
  have e0 := HVB.out
  rw [hv] at e0
  simp only [Value.slice.injEq] at e0
  obtain ⟨rfl, -, rfl⟩ := e0
  have HROW : Hid (w.ownsRow 0 69 2 (.slice (some ⟨g, 0, none⟩) bn cap) bn (fcells (zip0 s.back))) := Lib.hid (by
    have h : w.ownsRow 0 69 2 (V .back) s.back.length (fcells (zip0 s.back)) := HA.out.row .back
    rw [hv, HBN.out] at h; exact h)
  have hcell : ∀ j, j < bn * 2 → w.cell? ⟨g, j, none⟩ = (fcells (zip0 s.back))[j]? := fun j hj => HROW.out.cellAt j hj
  have d0 : w.cell? ⟨g, 0, none⟩ = some (.int .i64 b) := by rw [hcell 0 (by omega), hf]; rfl
  have d1 : w.cell? ⟨g, 1, none⟩ = some (.int .i64 x) := by rw [hcell 1 (by omega), hf]; rfl
  have nt : ¬ (Value.slice (some ⟨g, 0, none⟩) bn cap).ownBlock = some t := fun e => HA.out.tne (i := .back) (by
    have e : some g = some t := e
    rw [← e]; exact hgb)
  have HNS : Hid (∀ b, (V .back).ownBlock = some b → ¬ S b) := Lib.hid (fun b hb => HA.out.notS (i := .back) hb)
  have fS := HA.out.blk.frozen 4
  have tlt := HA.out.blk.lt
  have HTS := Lib.hid HA.out.tNotS
  have HGL : Hid (g < w.heap.size) := Lib.hid hglt
  have hgo : (V .back).ownBlock = (Value.slice (some ⟨g, 0, none⟩) bn cap).ownBlock := by rw [hgb]; rfl
  have HGO := Lib.hid hgo
  have hl0 : (0 : Int) < bn := by omega
  have hl1 : 0 < bn := by omega
  clear e1 e2 hcell hv hgb hglt c0 c1 c2 hgo
  go_enter Tryd.func19, Tryd.ntmps19
  go_wp2_with fail
  refine (within_any _ _ _ _).mono ?_
  rintro e w' ⟨rfl, rfl⟩
  rw [show inB 6 0 6 = true from rfl]
  go_wp2_with fail
  refine wp_region_plan (fun w' => Chg (fun b => (Value.slice (some ⟨g, 0, none⟩) bn cap).ownBlock = some b) w w' ∧ w'.cell? ⟨g, 0, none⟩ = some (.int .i64 b) ∧ w'.cell? ⟨g, 1, none⟩ = some (.int .i64 x)) 12 [(0,true),(1,true),(2,true),(3,true),(4,true),(5,true),(6,true),(7,true),(8,true),(9,false),(10,false),(11,true),(12,false)] mixed (by kernel_rfl) ⟨(Chg.refl _ _).drew, d0, d1⟩ ?_
  simp only [planOps, List.map_cons, List.map_nil, List.getElem?_cons_zero, List.getElem?_cons_succ, Option.getD_some]
  generalize hops : List.toArray _ = ops
  iterate 9 (refine wpPlan_quiet (v := ?_) rfl (fun _ _ _ h => h) (by intro w1 hS; have s0 := hS.1.cell_some c4 nt; have s1 := hS.2.1; have s2 := hS.2.2; clear hS; go_simp; with_reducible rfl) ?_; (simp only [Act.put, List.setIfInBounds_toArray, List.set_cons_zero, List.set_cons_succ]))
  refine wpPlan_loud rfl (fun K hK => ?_)
  go_simp
  have hcA : Chg NoF w (w.drew.alloc (.cells #[.int .i64 b, .int .i64 x] 69)) := ((Chg.refl NoF w).drew).alloc _
  refine hK _ _ (fun _ => ⟨hcA.ofNo, hcA.cell_some d0 (fun h => h), hcA.cell_some d1 (fun h => h)⟩) ?_
  clear hK K
  (try simp only [Act.put, List.setIfInBounds_toArray, List.set_cons_zero, List.set_cons_succ])
  refine wpPlan_loud rfl (fun K hK => ?_)
  go_simp
  refine (insert_any (w.drew.alloc (.cells #[.int .i64 b, .int .i64 x] 69)) _ bn (fcells (zip0 s.back)) (.int .i64 b) (.int .i64 x) w.heap.size 1 (hcA.row HROW.out (fun _ _ h => h)) (by omega) (by omega) (Blk.alloc w.drew [.int .i64 b, .int .i64 x] 69) (fun e => by
    have e : some g = some w.heap.size := e
    have := HGL.out
    injection e with e; omega) rfl rfl (fcells_one _)).mono ?_
  rintro e w4 ⟨v', rfl, hown4, hc4, hb4, hcell4⟩
  obtain ⟨va', vc', rfl⟩ := owns_val hown4
  have hc5 : Chg (fun b => (Value.slice (some ⟨g, 0, none⟩) bn cap).ownBlock = some b) w w4 := hcA.ofNo.trans hc4
  refine hK _ _ (fun _ => ⟨hc5, hcell4 g rfl 0 _ (by omega) rfl (hcA.cell_some d0 (fun h => h)), hcell4 g rfl 1 _ (by omega) rfl (hcA.cell_some d1 (fun h => h))⟩) ?_
  clear hK K
  (try simp only [Act.put, List.setIfInBounds_toArray, List.set_cons_zero, List.set_cons_succ])
  iterate 1 (refine wpPlan_quiet (v := ?_) rfl (fun _ _ _ h => h) (by intro w1 hS; clear hS; go_simp; with_reducible rfl) ?_; (simp only [Act.put, List.setIfInBounds_toArray, List.set_cons_zero, List.set_cons_succ]))
  refine wpPlan_loud rfl (fun K hK => ?_)
  have s2 := hc5.cell_some c4 nt
  have f2 : w4.frozen? ⟨t, 4, none⟩ = false := by rw [World.frozen?_of_block (hc5.block t tlt nt)]; exact fS
  go_simp
  refine hK _ _ (fun h => absurd rfl h) ?_
  clear hK K
  clear hops
  refine wpPlan_nil ?_
  have HI : Hid (BIn S (w4.setCell ⟨t, 4, none⟩ (.slice va' (bn + 1) vc')) t { s with back := b :: s.back }) := Lib.hid (BAt.put (s' := { s with back := b :: s.back }) (w1 := w.drew.alloc (.cells #[.int .i64 b, .int .i64 x] 69)) HA.out .back hcA (by rw [HGO.out]; exact hc4) _ _ _ _ _ hown4 (fun b hb => by
    rw [HGO.out]; exact hb4 b hb) (by
      show (⟨_, _, upd V .back _ .back, (b :: s.back).length, fcells (zip0 (b :: s.back))⟩ : Sl) = _
      rw [upd_self, List.length_cons, HBN.out, HX0.out]; rfl) (fun j hj => by cases j <;> first | exact absurd rfl hj | rfl) rfl)
  have HC : Hid (Chg (fun k => ¬ S k) w (w4.setCell ⟨t, 4, none⟩ (.slice va' (bn + 1) vc'))) := Lib.hid ((hc5.mono fun b _ hb => HNS.out b (by rw [HGO.out]; exact hb)).setCell (.inl HTS.out) _)
  clear hc5 hown4 hc4 hb4 hcell4 c4 d0 d1 fS tlt nt s2 f2 hcA
  generalize w4.setCell ⟨t, 4, none⟩ _ = w5 at *
  go_wp2
  go_ret
  exact ⟨by rw [HE.out]; rfl, by rw [hact.out]; exact HI.out, HC.out⟩

end Go.Proofs.YtgpjjbfmckcjgaaDoor
