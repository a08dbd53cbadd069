/-
  The document's answers about the line over two wires: what each function computes.
  Conditions: the answer's lists are read, and tell the program's line.
-/
import Derived.Test.YtgpjjbfmckcjgaaDoorBtF
import Derived.Test.YtgpjjbfmckcjgaaDoorBox
import Derived.Deep.DeepCutAuto
namespace Go.Proofs.YtgpjjbfmckcjgaaDoor
open Go Go.RowKit

def BNet.fL (s : BNet) : List Int := s.forth.map fun f => 2 * f.2 + (f.1 : Int)
def BNet.bL (s : BNet) : List Int := s.back.map fun (b : Nat) => (b : Int)
/-- The document's line, field by field. -/
def lf (s : BNet) : List Fd := [.l s.vals, .i s.sent, .l s.got, .l s.fL, .l s.bL]
theorem BNet.fL_len (s : BNet) : s.fL.length = s.forth.length := by simp [BNet.fL]
theorem BNet.bL_len (s : BNet) : s.bL.length = s.back.length := by simp [BNet.bL]

theorem aggLine : AggT Tryd.prog 44 5 := AggT.mk' (fun w => by kernel_rfl) Tryd.underlying44 rfl (by kernel_rfl)

theorem lf_opn {S : Nat → Prop} {w : World} {us : List Value} {s : BNet} (h : RdS S w us (lf s)) : ∃ (va : Option Addr) (vc : Nat) (ga : Option Addr) (gc : Nat) (fa : Option Addr) (fc : Nat) (ba : Option Addr) (bc : Nat), us = [.slice va s.vals.length vc, .int .i64 (s.sent : Int), .slice ga s.got.length gc, .slice fa s.forth.length fc, .slice ba s.back.length bc] := by
  obtain ⟨v0, us, rfl, h0, h⟩ := h.cons_inv
  obtain ⟨v1, us, rfl, h1, h⟩ := h.cons_inv
  obtain ⟨v2, us, rfl, h2, h⟩ := h.cons_inv
  obtain ⟨v3, us, rfl, h3, h⟩ := h.cons_inv
  obtain ⟨v4, us, rfl, h4, h⟩ := h.cons_inv
  obtain rfl := h.nil_inv
  obtain ⟨va, vc, rfl⟩ := Rd.val h0
  obtain ⟨ga, gc, rfl⟩ := Rd.val h2
  obtain ⟨fa, fc, rfl⟩ := Rd.val h3
  obtain ⟨ba, bc, rfl⟩ := Rd.val h4
  obtain rfl := h1
  rw [s.fL_len, s.bL_len]
  exact ⟨_, _, _, _, _, _, _, _, rfl⟩

def LAns (S : Nat → Prop) (w : World) (s' : BNet) (err : Int) (e : Ending) (w' : World) : Prop := ∃ v, e = .returned (.tuple #[v, .int .i64 err]) ∧ AnsF S w (lf s') v w'

theorem ownsRow_one (w : World) (x : Value) (e : TypeId) : (w.alloc (.cells #[x] e)).ownsRow w.heap.size e 1 (.slice (some ⟨w.heap.size, 0, none⟩) 1 1) 1 [x] :=
  ⟨rfl, .inr ⟨w.heap.size, 1, #[x], rfl, Nat.le_refl _, heap_alloc_new w _, Nat.le_refl _, by decide, rfl, rfl⟩⟩

set_option maxHeartbeats 1000000 in
set_option maxRecDepth 100000 in
theorem twice_ref (S : Nat → Prop) (v : Value) (x : Int) (l : List Int) (w : World) (hr : Rd S w v (x :: l)) (hb : l.length < 1000) :
    Calls Tryd.prog 35 #[v] w fun e w' => ∃ v', e = .returned v' ∧ RefP S w (x :: x :: l) v' w' := by
  obtain ⟨i0, hi, hz0, hz1, hz2⟩ := info_parts infoInt
  obtain ⟨b, off, c, rfl, _, hc⟩ := hr.form (by simp)
  have d0 := hc 0 (by simp)
  rw [show (x :: l).getD 0 0 = x from rfl, Nat.add_zero] at d0
  obtain ⟨n, hN⟩ : ∃ n, Hid (l.length = n) := ⟨_, Lib.hid rfl⟩
  have HC : Hid (∀ j u, ((x :: l).map (Value.int .i64))[j]? = some u → w.cell? (Addr.add ⟨b, off, none⟩ j) = some u) := Lib.hid fun j u hj => by
    have hjn : j < (x :: l).length := by have := (List.getElem?_eq_some_iff.1 hj).1; simpa using this
    rw [Addr.add_lit, hc j hjn, ← hj]
    simp only [List.getD, List.getElem?_map]
    rw [List.getElem?_eq_getElem hjn]; rfl
  obtain ⟨vs, hV⟩ : ∃ vs : List Value, Hid ((x :: l).map (Value.int .i64) = vs) := ⟨_, Lib.hid rfl⟩
  have HL : Hid (vs.length = n + 1) := Lib.hid (by rw [← hV.out, ← hN.out]; simp)
  have HO : Hid (∀ u ∈ vs, u.oneCell' = true) := Lib.hid (by rw [← hV.out]; intro u hu; obtain ⟨x, _, rfl⟩ := List.mem_map.1 hu; rfl)
  rw [hV.out] at HC
  rw [show (x :: l).length = n + 1 by rw [List.length_cons, hN.out]]
  rw [hN.out] at hb
  have hn1 : (0 : Int) < (n : Int) + 1 := by omega
  clear hr hc
  have HC2 : Hid (∀ j u, vs[j]? = some u → (w.alloc (.cells #[.int .i64 x] 3)).cell? (Addr.add ⟨b, off, none⟩ j) = some u) := Lib.hid fun j u hj => ((Chg.refl NoF w).alloc _).cell_some (HC.out j u hj) (fun h => h)
  go_enter Tryd.func35, Tryd.ntmps35
  go_wp2_with (at_builtin; refine wpList_append_own _ rfl _ _ 22 rfl w.heap.size 3 i0 (.int .i64 0) 1 8 Tryd.underlying22 hi hz0 hz1 hz2 rfl (by decide) (.slice (some ⟨w.heap.size, 0, none⟩) 1 1) 1 [.int .i64 x] rfl (ownsRow_one w (.int .i64 x) 3) ⟨b, off, none⟩ (n + 1) c vs rfl (by rw [HL.out]; simp) HC2.out HO.out (by unfold maxLen; omega) (by omega) (by simp) ?_; intro v' w1 hown hgrow hnil; have HW := Lib.hid hown; have HC1 : Hid (Chg NoF w w1) := Lib.hid (((Chg.refl NoF w).alloc _).grown hgrow (fun k hk => by simp [Value.ownBlock] at hk; right; omega)); clear hown hgrow hnil d0)
  go_wp2
  go_ret
  refine ⟨_, rfl, ?_, HC1.out⟩
  have h1 := HW.out
  rw [← hV.out] at h1
  exact Rd.ofOwns (l := x :: x :: l) (n := 1 + (n + 1)) h1 (fun k hk => .inr (h1.lt k hk).1)

set_option maxHeartbeats 8000000 in
set_option maxRecDepth 100000 in
theorem hap0 (S : Nat → Prop) (w : World) (us : List Value) (s : BNet) (h : RdS S w us (lf s)) (hs : BInv s) :
    Calls Tryd.prog 18 #[.agg us.toArray, .int .i64 0] w (LAns S w (s.act 0) (s.err 0)) := by
  obtain ⟨va, vc, ga, gc, fa, fc, ba, bc, rfl⟩ := lf_opn h
  have HU := Lib.hid h
  have HS := Lib.hid hs
  obtain ⟨vn, HVN⟩ : ∃ n, Hid (s.vals.length = n) := ⟨_, Lib.hid rfl⟩
  obtain ⟨sn, HSN⟩ : ∃ n, Hid (s.sent = n) := ⟨_, Lib.hid rfl⟩
  obtain ⟨gn, HGN⟩ : ∃ n, Hid (s.got.length = n) := ⟨_, Lib.hid rfl⟩
  obtain ⟨fn, HFN⟩ : ∃ n, Hid (s.forth.length = n) := ⟨_, Lib.hid rfl⟩
  obtain ⟨bn, HBN⟩ : ∃ n, Hid (s.back.length = n) := ⟨_, Lib.hid rfl⟩
  have hsv := hs.sle
  have hv20 := hs.v20
  have hgv := hs.gle
  have hf8 := hs.f8
  have hb8 := hs.b8
  rw [HVN.out, HSN.out, HGN.out, HFN.out, HBN.out] at HU ⊢
  rw [HVN.out, HSN.out] at hsv
  rw [HVN.out] at hv20
  rw [HVN.out, HGN.out] at hgv
  rw [HFN.out] at hf8
  rw [HBN.out] at hb8
  clear h hs
  have BAD : Hid (∀ x (w' : World), s.err 0 = x → x ≠ 0 → Bx S w w' w.heap.size (w.heap.size + 1) [.slice va vn vc, .int .i64 (sn : Int), .slice ga gn gc, .slice fa fn fc, .slice ba bn bc] [.slice va vn vc, .int .i64 (sn : Int), .slice ga gn gc, .slice fa fn fc, .slice ba bn bc] (lf s) → LAns S w (s.act 0) (s.err 0) (.returned (.tuple #[.agg #[.slice va vn vc, .int .i64 (sn : Int), .slice ga gn gc, .slice fa fn fc, .slice ba bn bc], .int .i64 x])) w') := Lib.hid fun x w' he hx hR => by
    have h1 : s.act 0 = s := by unfold BNet.act; rw [if_neg (by rw [he]; exact hx)]
    rw [h1, he]
    exact ⟨_, rfl, hR.ans⟩
  have HIN : Hid (inB (0 : Int) 0 6 = true) := Lib.hid (by decide)
  have HIN2 : Hid (inB (0 : Int) 1 3 = false) := Lib.hid (by decide)
  by_cases h5 : sn = vn
  · have e5 : s.sent = s.vals.length := by rw [HSN.out, HVN.out]; exact h5
    have HE : Hid (s.err 0 = 5) := Lib.hid (by simp [BNet.err, e5])
    have hb5 : ((sn : Int) == (vn : Int)) = true := by rw [beq_iff_eq]; omega
    clear h5 e5
    go_enter Tryd.func18, Tryd.ntmps18
    go_wp2_with fail
    refine (ref6In_any _ _ _ _).mono ?_
    rintro e w2 ⟨rfl, rfl⟩
    rw [HIN.out]
    have HB := Lib.hid (Bx.start w [.slice va vn vc, .int .i64 (sn : Int), .slice ga gn gc, .slice fa fn fc, .slice ba bn bc] [.slice none 0 0, .int .i64 0, .slice none 0 0, .slice none 0 0, .slice none 0 0] (lf s) HU.out 44 44)
    generalize ((w.alloc _).alloc _) = w2 at *
    have q0 : w2.cell? ⟨w.heap.size, 0, none⟩ = some (.slice va vn vc) := HB.out.ref.bB.cell 0
    have q1 : w2.cell? ⟨w.heap.size, 1, none⟩ = some (.int .i64 sn) := HB.out.ref.bB.cell 1
    have q2 : w2.cell? ⟨w.heap.size, 2, none⟩ = some (.slice ga gn gc) := HB.out.ref.bB.cell 2
    have q3 : w2.cell? ⟨w.heap.size, 3, none⟩ = some (.slice fa fn fc) := HB.out.ref.bB.cell 3
    have q4 : w2.cell? ⟨w.heap.size, 4, none⟩ = some (.slice ba bn bc) := HB.out.ref.bB.cell 4
    go_wp2_with (first | (refine wpList_plain rfl (fun K hK => wp_loadT aggLine _ rfl w.heap.size [.slice va vn vc, .int .i64 (sn : Int), .slice ga gn gc, .slice fa fn fc, .slice ba bn bc] (by rfl) HB.out.ref.bB rfl ?_); refine hK _ _ ?_; clear hK) | (refine wpList_plain rfl (fun K hK => wp_storeT aggLine _ _ rfl (w.heap.size + 1) [.slice va vn vc, .int .i64 (sn : Int), .slice ga gn gc, .slice fa fn fc, .slice ba bn bc] _ (by rfl) (by rfl) rfl HB.out.ref.bR rfl rfl ?_); intro wz hBz hcz; have HB3 := Lib.hid (HB.out.setR hBz hcz); clear hBz hcz; refine hK _ _ ?_; clear hK))
    (try simp only [Exit.inBlock, Exit.then]); refine bodyPost_ret (results_cell2 aggLine rfl _ _ _ _ (by rfl) HB3.out.ref.bR rfl) rfl ?_
    exact BAD.out 5 _ HE.out (by omega) HB3.out
  have n5 : ¬ s.sent = s.vals.length := by rw [HSN.out, HVN.out]; exact h5
  have hb5 : ((sn : Int) == (vn : Int)) = false := by rw [beq_eq_false_iff_ne]; omega
  by_cases h4 : 8 ≤ fn
  · have e4 : 8 ≤ s.forth.length := by rw [HFN.out]; exact h4
    have HE : Hid (s.err 0 = 4) := Lib.hid (by simp [BNet.err, n5, e4])
    have hi4 : (8 : Int) ≤ fn := by omega
    clear h4 e4 n5 h5
    go_enter Tryd.func18, Tryd.ntmps18
    go_wp2_with fail
    refine (ref6In_any _ _ _ _).mono ?_
    rintro e w2 ⟨rfl, rfl⟩
    rw [HIN.out]
    have HB := Lib.hid (Bx.start w [.slice va vn vc, .int .i64 (sn : Int), .slice ga gn gc, .slice fa fn fc, .slice ba bn bc] [.slice none 0 0, .int .i64 0, .slice none 0 0, .slice none 0 0, .slice none 0 0] (lf s) HU.out 44 44)
    generalize ((w.alloc _).alloc _) = w2 at *
    have q0 : w2.cell? ⟨w.heap.size, 0, none⟩ = some (.slice va vn vc) := HB.out.ref.bB.cell 0
    have q1 : w2.cell? ⟨w.heap.size, 1, none⟩ = some (.int .i64 sn) := HB.out.ref.bB.cell 1
    have q2 : w2.cell? ⟨w.heap.size, 2, none⟩ = some (.slice ga gn gc) := HB.out.ref.bB.cell 2
    have q3 : w2.cell? ⟨w.heap.size, 3, none⟩ = some (.slice fa fn fc) := HB.out.ref.bB.cell 3
    have q4 : w2.cell? ⟨w.heap.size, 4, none⟩ = some (.slice ba bn bc) := HB.out.ref.bB.cell 4
    go_wp2_with fail
    refine (ref6In_any _ _ _ _).mono ?_
    rintro e w3 ⟨rfl, rfl⟩
    rw [HIN2.out]
    go_wp2_with (first | (refine wpList_plain rfl (fun K hK => wp_loadT aggLine _ rfl w.heap.size [.slice va vn vc, .int .i64 (sn : Int), .slice ga gn gc, .slice fa fn fc, .slice ba bn bc] (by rfl) HB.out.ref.bB rfl ?_); refine hK _ _ ?_; clear hK) | (refine wpList_plain rfl (fun K hK => wp_storeT aggLine _ _ rfl (w.heap.size + 1) [.slice va vn vc, .int .i64 (sn : Int), .slice ga gn gc, .slice fa fn fc, .slice ba bn bc] _ (by rfl) (by rfl) rfl HB.out.ref.bR rfl rfl ?_); intro wz hBz hcz; have HB3 := Lib.hid (HB.out.setR hBz hcz); clear hBz hcz; refine hK _ _ ?_; clear hK))
    (try simp only [Exit.inBlock, Exit.then]); refine bodyPost_ret (results_cell2 aggLine rfl _ _ _ _ (by rfl) HB3.out.ref.bR rfl) rfl ?_
    exact BAD.out 4 _ HE.out (by omega) HB3.out
  have n4 : ¬ 8 ≤ s.forth.length := by rw [HFN.out]; exact h4
  have hi4 : ¬ (8 : Int) ≤ fn := by omega
  have HE : Hid (s.err 0 = 0) := Lib.hid (by simp [BNet.err, n5, n4])
  have HDO : Hid (s.act 0 = s.pass 0) := Lib.hid (by unfold BNet.act; rw [if_pos HE.out])
  have hvs : sn < vn := by omega
  have hx := HS.out.rng (s.vals.getD sn 0) (by rw [List.getD, List.getElem?_eq_getElem (by rw [HVN.out]; exact hvs)]; exact List.getElem_mem _)
  obtain ⟨x, HX⟩ : ∃ x, Hid (s.vals.getD sn 0 = x) := ⟨_, Lib.hid rfl⟩
  rw [HX.out] at hx
  obtain ⟨hx0, hx1⟩ := hx
  obtain ⟨t, HT⟩ : ∃ t : Nat, Hid (sn % 2 = t) := ⟨_, Lib.hid rfl⟩
  have ht : t < 2 := by rw [← HT.out]; omega
  have hmod : Int.tmod (sn : Int) 2 = (t : Int) := by rw [← HT.out]; rfl
  obtain ⟨y1, HY1⟩ : ∃ y1 : Int, Hid (2 * x = y1) := ⟨_, Lib.hid rfl⟩
  obtain ⟨y, HY⟩ : ∃ y : Int, Hid (y1 + (t : Int) = y) := ⟨_, Lib.hid rfl⟩
  have hw1 : IntKind.i64.wrap (2 * x) = y1 := by rw [← HY1.out]; exact IntWalk.i64_in _ (by omega)
  have hw2 : IntKind.i64.wrap (y1 + (t : Int)) = y := by rw [← HY.out, ← HY1.out]; exact IntWalk.i64_in _ (by omega)
  have HP : Hid ((lf s).set 3 (.l (s.fL ++ [y])) = lf (s.pass 0)) := Lib.hid (by
    have e : (s.pass 0).fL = s.fL ++ [y] := by
      simp only [BNet.pass, BNet.fL, if_true, List.map_append, List.map_cons, List.map_nil]
      rw [HSN.out, HX.out, HT.out, ← HY.out, ← HY1.out]
    show _ = [_, _, _, Fd.l (s.pass 0).fL, _]
    rw [e]; rfl)
  have hsv1 : (sn : Int) < vn := by omega
  clear n5 n4 h5 h4
  go_enter Tryd.func18, Tryd.ntmps18
  go_wp2_with fail
  refine (ref6In_any _ _ _ _).mono ?_
  rintro e w2 ⟨rfl, rfl⟩
  rw [HIN.out]
  have HB := Lib.hid (Bx.start w [.slice va vn vc, .int .i64 (sn : Int), .slice ga gn gc, .slice fa fn fc, .slice ba bn bc] [.slice none 0 0, .int .i64 0, .slice none 0 0, .slice none 0 0, .slice none 0 0] (lf s) HU.out 44 44)
  generalize ((w.alloc _).alloc _) = w2 at *
  have q0 : w2.cell? ⟨w.heap.size, 0, none⟩ = some (.slice va vn vc) := HB.out.ref.bB.cell 0
  have q1 : w2.cell? ⟨w.heap.size, 1, none⟩ = some (.int .i64 sn) := HB.out.ref.bB.cell 1
  have q2 : w2.cell? ⟨w.heap.size, 2, none⟩ = some (.slice ga gn gc) := HB.out.ref.bB.cell 2
  have q3 : w2.cell? ⟨w.heap.size, 3, none⟩ = some (.slice fa fn fc) := HB.out.ref.bB.cell 3
  have q4 : w2.cell? ⟨w.heap.size, 4, none⟩ = some (.slice ba bn bc) := HB.out.ref.bB.cell 4
  go_wp2_with fail
  refine (ref6In_any _ _ _ _).mono ?_
  rintro e w3 ⟨rfl, rfl⟩
  rw [HIN2.out]
  have HRV : Hid (Rd (In S w w.heap.size (w.heap.size + 1)) w2 (.slice va vn vc) s.vals) := Lib.hid (HB.out.at 0 rfl rfl)
  have HRF : Hid (Rd (In S w w.heap.size (w.heap.size + 1)) w2 (.slice fa fn fc) s.fL) := Lib.hid (HB.out.at 3 rfl rfl)
  obtain ⟨bV, oV, cV, eV, -, hcV⟩ := HRV.out.form (by rw [HVN.out]; omega)
  rw [HVN.out] at eV
  simp only [Value.slice.injEq] at eV
  obtain ⟨rfl, -, rfl⟩ := eV
  have dV := hcV sn (by rw [HVN.out]; exact hvs)
  rw [HX.out] at dV
  clear hcV
  go_wp2_with fail
  refine wp_region_plan (Chg NoF w2) 15 [(0,true),(1,true),(2,true),(3,true),(4,true),(5,true),(6,true),(7,true),(8,true),(9,true),(10,true),(11,true),(12,true),(13,false),(14,true),(15,false)] mixed (by kernel_rfl) (Chg.refl _ _).drew ?_
  simp only [planOps, List.map_cons, List.map_nil, List.getElem?_cons_zero, List.getElem?_cons_succ, Option.getD_some]
  generalize hops : List.toArray _ = ops
  iterate 13 (refine wpPlan_quiet (v := ?_) rfl (fun _ _ _ h => h) (by intro w1 hS; have s0 := hS.cell_some q3 (fun h => h); have s1 := hS.cell_some q0 (fun h => h); have s2 := hS.cell_some q1 (fun h => h); have s3 := hS.cell_some dV (fun h => h); clear hS; go_simp; with_reducible rfl) ?_; (simp only [Act.put, List.setIfInBounds_toArray, List.set_cons_zero, List.set_cons_succ]))
  refine wpPlan_loud rfl (fun K hK => ?_)
  go_simp
  have HD := Lib.hid (HB.out.no ((Chg.refl NoF w2).drew))
  refine (more_ref (In S w w.heap.size (w.heap.size + 1)) _ s.fL y w2.drew (HRF.out.keep ((Chg.refl NoF w2).drew) (fun _ _ h => h)) (by rw [s.fL_len, HFN.out]; omega)).mono ?_
  rintro e w3 ⟨v3, rfl, hr3, hc3⟩
  have HL3 : Hid ((s.fL ++ [y]).length = fn + 1) := Lib.hid (by rw [List.length_append, s.fL_len, HFN.out]; rfl)
  obtain ⟨a3, c3, e3⟩ := hr3.val
  rw [HL3.out] at e3
  subst e3
  have HX3 := Lib.hid (HD.out.told (f := .l _) hr3)
  have HN3 := Lib.hid (HD.out.no hc3)
  have HB3 := Lib.hid (HN3.out.set 3 _ _ HX3.out)
  refine hK _ _ (fun _ => ((Chg.refl NoF w2).drew).trans hc3) ?_
  clear hK K hr3 hc3
  (try simp only [Act.put, List.setIfInBounds_toArray, List.set_cons_zero, List.set_cons_succ])
  (refine wpPlan_quiet (v := ?_) rfl (fun _ _ _ h => h) (by intro w1 hS; clear hS; go_simp; with_reducible rfl) ?_; (simp only [Act.put, List.setIfInBounds_toArray, List.set_cons_zero, List.set_cons_succ]))
  refine wpPlan_loud rfl (fun K hK => ?_)
  have s3 : w3.cell? ⟨w.heap.size, 3, none⟩ = some (.slice fa fn fc) := HN3.out.ref.bB.cell 3
  have z3 := HN3.out.ref.bB.frozen 3
  go_simp
  refine hK _ _ (fun h => absurd rfl h) ?_
  clear hK K
  clear hops
  refine wpPlan_nil ?_
  clear s3 z3 q0 q1 q2 q3 q4 dV HN3 HX3 HD HRV HRF HB
  generalize w3.setCell _ _ = w4 at *
  go_wp2_with (first | (refine wpList_plain rfl (fun K hK => wp_loadT aggLine _ rfl w.heap.size [.slice (some ⟨bV, oV, none⟩) vn vc, .int .i64 (sn : Int), .slice ga gn gc, .slice a3 (fn + 1) c3, .slice ba bn bc] (by rfl) HB3.out.ref.bB rfl ?_); refine hK _ _ ?_; clear hK) | (refine wpList_plain rfl (fun K hK => wp_storeT aggLine _ _ rfl (w.heap.size + 1) [.slice (some ⟨bV, oV, none⟩) vn vc, .int .i64 (sn : Int), .slice ga gn gc, .slice a3 (fn + 1) c3, .slice ba bn bc] _ (by rfl) (by rfl) rfl HB3.out.ref.bR rfl rfl ?_); intro wz hBz hcz; have HBZ := Lib.hid (HB3.out.setR hBz hcz); clear hBz hcz; refine hK _ _ ?_; clear hK))
  (try simp only [Exit.inBlock, Exit.then]); refine bodyPost_ret (results_cell2 aggLine rfl _ _ _ _ (by rfl) HBZ.out.ref.bR rfl) rfl ?_
  rw [HE.out, HDO.out]
  have hz := HBZ.out.ans
  rw [HP.out] at hz
  exact ⟨_, rfl, hz⟩

set_option maxHeartbeats 8000000 in
set_option maxRecDepth 100000 in
theorem hap2 (S : Nat → Prop) (w : World) (us : List Value) (s : BNet) (h : RdS S w us (lf s)) (hs : BInv s) :
    Calls Tryd.prog 18 #[.agg us.toArray, .int .i64 2] w (LAns S w (s.act 2) (s.err 2)) := by
  obtain ⟨va, vc, ga, gc, fa, fc, ba, bc, rfl⟩ := lf_opn h
  have HU := Lib.hid h
  have HS := Lib.hid hs
  obtain ⟨vn, HVN⟩ : ∃ n, Hid (s.vals.length = n) := ⟨_, Lib.hid rfl⟩
  obtain ⟨sn, HSN⟩ : ∃ n, Hid (s.sent = n) := ⟨_, Lib.hid rfl⟩
  obtain ⟨gn, HGN⟩ : ∃ n, Hid (s.got.length = n) := ⟨_, Lib.hid rfl⟩
  obtain ⟨fn, HFN⟩ : ∃ n, Hid (s.forth.length = n) := ⟨_, Lib.hid rfl⟩
  obtain ⟨bn, HBN⟩ : ∃ n, Hid (s.back.length = n) := ⟨_, Lib.hid rfl⟩
  have hsv := hs.sle
  have hv20 := hs.v20
  have hgv := hs.gle
  have hf8 := hs.f8
  have hb8 := hs.b8
  rw [HVN.out, HSN.out, HGN.out, HFN.out, HBN.out] at HU ⊢
  rw [HVN.out, HSN.out] at hsv
  rw [HVN.out] at hv20
  rw [HVN.out, HGN.out] at hgv
  rw [HFN.out] at hf8
  rw [HBN.out] at hb8
  clear h hs
  have BAD : Hid (∀ x (w' : World), s.err 2 = x → x ≠ 0 → Bx S w w' w.heap.size (w.heap.size + 1) [.slice va vn vc, .int .i64 (sn : Int), .slice ga gn gc, .slice fa fn fc, .slice ba bn bc] [.slice va vn vc, .int .i64 (sn : Int), .slice ga gn gc, .slice fa fn fc, .slice ba bn bc] (lf s) → LAns S w (s.act 2) (s.err 2) (.returned (.tuple #[.agg #[.slice va vn vc, .int .i64 (sn : Int), .slice ga gn gc, .slice fa fn fc, .slice ba bn bc], .int .i64 x])) w') := Lib.hid fun x w' he hx hR => by
    have h1 : s.act 2 = s := by unfold BNet.act; rw [if_neg (by rw [he]; exact hx)]
    rw [h1, he]
    exact ⟨_, rfl, hR.ans⟩
  have HIN : Hid (inB (2 : Int) 0 6 = true) := Lib.hid (by decide)
  have HIN2 : Hid (inB (2 : Int) 1 3 = true) := Lib.hid (by decide)
  by_cases h5 : fn = 0
  · have e5 : s.forth.length = 0 := by rw [HFN.out]; exact h5
    have HE : Hid (s.err 2 = 5) := Lib.hid (by simp [BNet.err, e5])
    have hb5 : ((fn : Int) == 0) = true := by rw [beq_iff_eq]; omega
    clear h5 e5
    go_enter Tryd.func18, Tryd.ntmps18
    go_wp2_with fail
    refine (ref6In_any _ _ _ _).mono ?_
    rintro e w2 ⟨rfl, rfl⟩
    rw [HIN.out]
    have HB := Lib.hid (Bx.start w [.slice va vn vc, .int .i64 (sn : Int), .slice ga gn gc, .slice fa fn fc, .slice ba bn bc] [.slice none 0 0, .int .i64 0, .slice none 0 0, .slice none 0 0, .slice none 0 0] (lf s) HU.out 44 44)
    generalize ((w.alloc _).alloc _) = w2 at *
    have q0 : w2.cell? ⟨w.heap.size, 0, none⟩ = some (.slice va vn vc) := HB.out.ref.bB.cell 0
    have q1 : w2.cell? ⟨w.heap.size, 1, none⟩ = some (.int .i64 sn) := HB.out.ref.bB.cell 1
    have q2 : w2.cell? ⟨w.heap.size, 2, none⟩ = some (.slice ga gn gc) := HB.out.ref.bB.cell 2
    have q3 : w2.cell? ⟨w.heap.size, 3, none⟩ = some (.slice fa fn fc) := HB.out.ref.bB.cell 3
    have q4 : w2.cell? ⟨w.heap.size, 4, none⟩ = some (.slice ba bn bc) := HB.out.ref.bB.cell 4
    go_wp2_with fail
    refine (ref6In_any _ _ _ _).mono ?_
    rintro e w3 ⟨rfl, rfl⟩
    rw [HIN2.out]
    go_wp2_with (first | (refine wpList_plain rfl (fun K hK => wp_loadT aggLine _ rfl w.heap.size [.slice va vn vc, .int .i64 (sn : Int), .slice ga gn gc, .slice fa fn fc, .slice ba bn bc] (by rfl) HB.out.ref.bB rfl ?_); refine hK _ _ ?_; clear hK) | (refine wpList_plain rfl (fun K hK => wp_storeT aggLine _ _ rfl (w.heap.size + 1) [.slice va vn vc, .int .i64 (sn : Int), .slice ga gn gc, .slice fa fn fc, .slice ba bn bc] _ (by rfl) (by rfl) rfl HB.out.ref.bR rfl rfl ?_); intro wz hBz hcz; have HB3 := Lib.hid (HB.out.setR hBz hcz); clear hBz hcz; refine hK _ _ ?_; clear hK))
    (try simp only [Exit.inBlock, Exit.then]); refine bodyPost_ret (results_cell2 aggLine rfl _ _ _ _ (by rfl) HB3.out.ref.bR rfl) rfl ?_
    exact BAD.out 5 _ HE.out (by omega) HB3.out
  have n5 : ¬ s.forth.length = 0 := by rw [HFN.out]; exact h5
  have hb5 : ((fn : Int) == 0) = false := by rw [beq_eq_false_iff_ne]; omega
  have HE : Hid (s.err 2 = 0) := Lib.hid (by simp [BNet.err, n5])
  have HDO : Hid (s.act 2 = s.pass 2) := Lib.hid (by unfold BNet.act; rw [if_pos HE.out])
  obtain ⟨pf, ft, HF⟩ : ∃ f ft, Hid (s.forth = f :: ft) := by
    cases hcs : s.forth with
    | nil => exact absurd (by rw [hcs]; rfl) n5
    | cons f ft => exact ⟨f, ft, Lib.hid rfl⟩
  obtain ⟨tl, HTL⟩ : ∃ tl, Hid (ft.map (fun f => 2 * f.2 + (f.1 : Int)) = tl) := ⟨_, Lib.hid rfl⟩
  obtain ⟨hd, HHD⟩ : ∃ hd : Int, Hid (2 * pf.2 + (pf.1 : Int) = hd) := ⟨_, Lib.hid rfl⟩
  have HFL : Hid (s.fL = hd :: tl) := Lib.hid (by unfold BNet.fL; rw [HF.out, List.map_cons, HTL.out, HHD.out])
  obtain ⟨m, HM⟩ : ∃ m, Hid (fn = m + 1) := ⟨fn - 1, Lib.hid (by omega)⟩
  have HML : Hid (tl.length = m) := Lib.hid (by rw [← HTL.out, List.length_map]; have := HFN.out; rw [HF.out, List.length_cons] at this; have := HM.out; omega)
  obtain rfl := HM.out
  clear hb5
  have hb5 : ((((m : Int) + 1)) == 0) = false := by rw [beq_eq_false_iff_ne]; omega
  have HP : Hid ((lf s).set 3 (.l tl) = lf (s.pass 2)) := Lib.hid (by
    have e : (s.pass 2).fL = tl := by simp [BNet.pass, BNet.fL, HF.out, HTL.out]
    show _ = [_, _, _, Fd.l (s.pass 2).fL, _]
    rw [e]; rfl)
  clear n5 h5
  go_enter Tryd.func18, Tryd.ntmps18
  go_wp2_with fail
  refine (ref6In_any _ _ _ _).mono ?_
  rintro e w2 ⟨rfl, rfl⟩
  rw [HIN.out]
  have HB := Lib.hid (Bx.start w [.slice va vn vc, .int .i64 (sn : Int), .slice ga gn gc, .slice fa (m + 1) fc, .slice ba bn bc] [.slice none 0 0, .int .i64 0, .slice none 0 0, .slice none 0 0, .slice none 0 0] (lf s) HU.out 44 44)
  generalize ((w.alloc _).alloc _) = w2 at *
  have HT0 : Hid (Rd (In S w w.heap.size (w.heap.size + 1)) w2 (.slice fa (m + 1) fc) (hd :: tl)) := Lib.hid (by rw [← HFL.out]; exact HB.out.at 3 rfl rfl)
  obtain ⟨bF, oF, cF, ev, -, hcap, hcH⟩ := HT0.out.formC (by simp)
  rw [show (hd :: tl).length = m + 1 by rw [List.length_cons, HML.out]] at ev hcap
  simp only [Value.slice.injEq] at ev
  obtain ⟨rfl, -, rfl⟩ := ev
  have dH := hcH 0 (by simp)
  rw [show (hd :: tl).getD 0 0 = hd from rfl, Nat.add_zero] at dH
  clear hcH
  obtain ⟨off, hoff, hoff2⟩ := tail_off2 bF oF fc m hcap
  have HT1 : Hid (Rd (In S w w.heap.size (w.heap.size + 1)) w2 (.slice (some ⟨bF, oF, none⟩) (m + 1) fc) (hd :: tl)) := Lib.hid (by rw [← HFL.out]; exact HB.out.at 3 rfl rfl)
  have HTA : Hid (RdF (In S w w.heap.size (w.heap.size + 1)) w2 (.slice (some ⟨bF, off, none⟩) m (fc - 1)) (.l tl)) := Lib.hid (Rd.tail2 HT1.out HML.out hoff2)
  have hcap2 : (m : Int) + 1 ≤ fc := by omega
  clear hoff2
  have q0 : w2.cell? ⟨w.heap.size, 0, none⟩ = some (.slice va vn vc) := HB.out.ref.bB.cell 0
  have q1 : w2.cell? ⟨w.heap.size, 1, none⟩ = some (.int .i64 sn) := HB.out.ref.bB.cell 1
  have q2 : w2.cell? ⟨w.heap.size, 2, none⟩ = some (.slice ga gn gc) := HB.out.ref.bB.cell 2
  have q3 : w2.cell? ⟨w.heap.size, 3, none⟩ = some (.slice (some ⟨bF, oF, none⟩) (m + 1) fc) := HB.out.ref.bB.cell 3
  have q4 : w2.cell? ⟨w.heap.size, 4, none⟩ = some (.slice ba bn bc) := HB.out.ref.bB.cell 4
  go_wp2_with fail
  refine (ref6In_any _ _ _ _).mono ?_
  rintro e w3 ⟨rfl, rfl⟩
  rw [HIN2.out]
  have zf := HB.out.ref.bB.frozen 3
  have HB5 := Lib.hid (HB.out.set 3 _ _ HTA.out)
  go_wp2_with (first | (refine wpList_plain rfl (fun K hK => wp_loadT aggLine _ rfl w.heap.size [.slice va vn vc, .int .i64 (sn : Int), .slice ga gn gc, .slice (some ⟨bF, off, none⟩) m (fc - 1), .slice ba bn bc] (by rfl) HB5.out.ref.bB rfl ?_); refine hK _ _ ?_; clear hK) | (refine wpList_plain rfl (fun K hK => wp_storeT aggLine _ _ rfl (w.heap.size + 1) [.slice va vn vc, .int .i64 (sn : Int), .slice ga gn gc, .slice (some ⟨bF, off, none⟩) m (fc - 1), .slice ba bn bc] _ (by rfl) (by rfl) rfl HB5.out.ref.bR rfl rfl ?_); intro wz hBz hcz; have HBZ := Lib.hid (HB5.out.setR hBz hcz); clear hBz hcz; refine hK _ _ ?_; clear hK))
  (try simp only [Exit.inBlock, Exit.then]); refine bodyPost_ret (results_cell2 aggLine rfl _ _ _ _ (by rfl) HBZ.out.ref.bR rfl) rfl ?_
  rw [HE.out, HDO.out]
  have hz := HBZ.out.ans
  rw [HP.out] at hz
  exact ⟨_, rfl, hz⟩

set_option maxHeartbeats 8000000 in
set_option maxRecDepth 100000 in
theorem hap3 (S : Nat → Prop) (w : World) (us : List Value) (s : BNet) (h : RdS S w us (lf s)) (hs : BInv s) :
    Calls Tryd.prog 18 #[.agg us.toArray, .int .i64 3] w (LAns S w (s.act 3) (s.err 3)) := by
  obtain ⟨va, vc, ga, gc, fa, fc, ba, bc, rfl⟩ := lf_opn h
  have HU := Lib.hid h
  have HS := Lib.hid hs
  obtain ⟨vn, HVN⟩ : ∃ n, Hid (s.vals.length = n) := ⟨_, Lib.hid rfl⟩
  obtain ⟨sn, HSN⟩ : ∃ n, Hid (s.sent = n) := ⟨_, Lib.hid rfl⟩
  obtain ⟨gn, HGN⟩ : ∃ n, Hid (s.got.length = n) := ⟨_, Lib.hid rfl⟩
  obtain ⟨fn, HFN⟩ : ∃ n, Hid (s.forth.length = n) := ⟨_, Lib.hid rfl⟩
  obtain ⟨bn, HBN⟩ : ∃ n, Hid (s.back.length = n) := ⟨_, Lib.hid rfl⟩
  have hsv := hs.sle
  have hv20 := hs.v20
  have hgv := hs.gle
  have hf8 := hs.f8
  have hb8 := hs.b8
  rw [HVN.out, HSN.out, HGN.out, HFN.out, HBN.out] at HU ⊢
  rw [HVN.out, HSN.out] at hsv
  rw [HVN.out] at hv20
  rw [HVN.out, HGN.out] at hgv
  rw [HFN.out] at hf8
  rw [HBN.out] at hb8
  clear h hs
  have BAD : Hid (∀ x (w' : World), s.err 3 = x → x ≠ 0 → Bx S w w' w.heap.size (w.heap.size + 1) [.slice va vn vc, .int .i64 (sn : Int), .slice ga gn gc, .slice fa fn fc, .slice ba bn bc] [.slice va vn vc, .int .i64 (sn : Int), .slice ga gn gc, .slice fa fn fc, .slice ba bn bc] (lf s) → LAns S w (s.act 3) (s.err 3) (.returned (.tuple #[.agg #[.slice va vn vc, .int .i64 (sn : Int), .slice ga gn gc, .slice fa fn fc, .slice ba bn bc], .int .i64 x])) w') := Lib.hid fun x w' he hx hR => by
    have h1 : s.act 3 = s := by unfold BNet.act; rw [if_neg (by rw [he]; exact hx)]
    rw [h1, he]
    exact ⟨_, rfl, hR.ans⟩
  have HIN : Hid (inB (3 : Int) 0 6 = true) := Lib.hid (by decide)
  have HIN2 : Hid (inB (3 : Int) 1 3 = true) := Lib.hid (by decide)
  by_cases h5 : fn = 0
  · have e5 : s.forth.length = 0 := by rw [HFN.out]; exact h5
    have HE : Hid (s.err 3 = 5) := Lib.hid (by simp [BNet.err, e5])
    have hb5 : ((fn : Int) == 0) = true := by rw [beq_iff_eq]; omega
    clear h5 e5
    go_enter Tryd.func18, Tryd.ntmps18
    go_wp2_with fail
    refine (ref6In_any _ _ _ _).mono ?_
    rintro e w2 ⟨rfl, rfl⟩
    rw [HIN.out]
    have HB := Lib.hid (Bx.start w [.slice va vn vc, .int .i64 (sn : Int), .slice ga gn gc, .slice fa fn fc, .slice ba bn bc] [.slice none 0 0, .int .i64 0, .slice none 0 0, .slice none 0 0, .slice none 0 0] (lf s) HU.out 44 44)
    generalize ((w.alloc _).alloc _) = w2 at *
    have q0 : w2.cell? ⟨w.heap.size, 0, none⟩ = some (.slice va vn vc) := HB.out.ref.bB.cell 0
    have q1 : w2.cell? ⟨w.heap.size, 1, none⟩ = some (.int .i64 sn) := HB.out.ref.bB.cell 1
    have q2 : w2.cell? ⟨w.heap.size, 2, none⟩ = some (.slice ga gn gc) := HB.out.ref.bB.cell 2
    have q3 : w2.cell? ⟨w.heap.size, 3, none⟩ = some (.slice fa fn fc) := HB.out.ref.bB.cell 3
    have q4 : w2.cell? ⟨w.heap.size, 4, none⟩ = some (.slice ba bn bc) := HB.out.ref.bB.cell 4
    go_wp2_with fail
    refine (ref6In_any _ _ _ _).mono ?_
    rintro e w3 ⟨rfl, rfl⟩
    rw [HIN2.out]
    go_wp2_with (first | (refine wpList_plain rfl (fun K hK => wp_loadT aggLine _ rfl w.heap.size [.slice va vn vc, .int .i64 (sn : Int), .slice ga gn gc, .slice fa fn fc, .slice ba bn bc] (by rfl) HB.out.ref.bB rfl ?_); refine hK _ _ ?_; clear hK) | (refine wpList_plain rfl (fun K hK => wp_storeT aggLine _ _ rfl (w.heap.size + 1) [.slice va vn vc, .int .i64 (sn : Int), .slice ga gn gc, .slice fa fn fc, .slice ba bn bc] _ (by rfl) (by rfl) rfl HB.out.ref.bR rfl rfl ?_); intro wz hBz hcz; have HB3 := Lib.hid (HB.out.setR hBz hcz); clear hBz hcz; refine hK _ _ ?_; clear hK))
    (try simp only [Exit.inBlock, Exit.then]); refine bodyPost_ret (results_cell2 aggLine rfl _ _ _ _ (by rfl) HB3.out.ref.bR rfl) rfl ?_
    exact BAD.out 5 _ HE.out (by omega) HB3.out
  have n5 : ¬ s.forth.length = 0 := by rw [HFN.out]; exact h5
  have hb5 : ((fn : Int) == 0) = false := by rw [beq_eq_false_iff_ne]; omega
  by_cases h4 : 8 ≤ fn
  · have e4 : 8 ≤ s.forth.length := by rw [HFN.out]; exact h4
    have HE : Hid (s.err 3 = 4) := Lib.hid (by simp [BNet.err, n5, e4])
    have hi4 : (8 : Int) ≤ fn := by omega
    clear h4 e4 n5 h5
    go_enter Tryd.func18, Tryd.ntmps18
    go_wp2_with fail
    refine (ref6In_any _ _ _ _).mono ?_
    rintro e w2 ⟨rfl, rfl⟩
    rw [HIN.out]
    have HB := Lib.hid (Bx.start w [.slice va vn vc, .int .i64 (sn : Int), .slice ga gn gc, .slice fa fn fc, .slice ba bn bc] [.slice none 0 0, .int .i64 0, .slice none 0 0, .slice none 0 0, .slice none 0 0] (lf s) HU.out 44 44)
    generalize ((w.alloc _).alloc _) = w2 at *
    have q0 : w2.cell? ⟨w.heap.size, 0, none⟩ = some (.slice va vn vc) := HB.out.ref.bB.cell 0
    have q1 : w2.cell? ⟨w.heap.size, 1, none⟩ = some (.int .i64 sn) := HB.out.ref.bB.cell 1
    have q2 : w2.cell? ⟨w.heap.size, 2, none⟩ = some (.slice ga gn gc) := HB.out.ref.bB.cell 2
    have q3 : w2.cell? ⟨w.heap.size, 3, none⟩ = some (.slice fa fn fc) := HB.out.ref.bB.cell 3
    have q4 : w2.cell? ⟨w.heap.size, 4, none⟩ = some (.slice ba bn bc) := HB.out.ref.bB.cell 4
    go_wp2_with fail
    refine (ref6In_any _ _ _ _).mono ?_
    rintro e w3 ⟨rfl, rfl⟩
    rw [HIN2.out]
    go_wp2_with (first | (refine wpList_plain rfl (fun K hK => wp_loadT aggLine _ rfl w.heap.size [.slice va vn vc, .int .i64 (sn : Int), .slice ga gn gc, .slice fa fn fc, .slice ba bn bc] (by rfl) HB.out.ref.bB rfl ?_); refine hK _ _ ?_; clear hK) | (refine wpList_plain rfl (fun K hK => wp_storeT aggLine _ _ rfl (w.heap.size + 1) [.slice va vn vc, .int .i64 (sn : Int), .slice ga gn gc, .slice fa fn fc, .slice ba bn bc] _ (by rfl) (by rfl) rfl HB.out.ref.bR rfl rfl ?_); intro wz hBz hcz; have HB3 := Lib.hid (HB.out.setR hBz hcz); clear hBz hcz; refine hK _ _ ?_; clear hK))
    (try simp only [Exit.inBlock, Exit.then]); refine bodyPost_ret (results_cell2 aggLine rfl _ _ _ _ (by rfl) HB3.out.ref.bR rfl) rfl ?_
    exact BAD.out 4 _ HE.out (by omega) HB3.out
  have n4 : ¬ 8 ≤ s.forth.length := by rw [HFN.out]; exact h4
  have hi4 : ¬ (8 : Int) ≤ fn := by omega
  have HE : Hid (s.err 3 = 0) := Lib.hid (by simp [BNet.err, n5, n4])
  have HDO : Hid (s.act 3 = s.pass 3) := Lib.hid (by unfold BNet.act; rw [if_pos HE.out])
  obtain ⟨pf, ft, HF⟩ : ∃ f ft, Hid (s.forth = f :: ft) := by
    cases hcs : s.forth with
    | nil => exact absurd (by rw [hcs]; rfl) n5
    | cons f ft => exact ⟨f, ft, Lib.hid rfl⟩
  obtain ⟨tl, HTL⟩ : ∃ tl, Hid (ft.map (fun f => 2 * f.2 + (f.1 : Int)) = tl) := ⟨_, Lib.hid rfl⟩
  obtain ⟨hd, HHD⟩ : ∃ hd : Int, Hid (2 * pf.2 + (pf.1 : Int) = hd) := ⟨_, Lib.hid rfl⟩
  have HFL : Hid (s.fL = hd :: tl) := Lib.hid (by unfold BNet.fL; rw [HF.out, List.map_cons, HTL.out, HHD.out])
  obtain ⟨m, HM⟩ : ∃ m, Hid (fn = m + 1) := ⟨fn - 1, Lib.hid (by omega)⟩
  have HML : Hid (tl.length = m) := Lib.hid (by rw [← HTL.out, List.length_map]; have := HFN.out; rw [HF.out, List.length_cons] at this; have := HM.out; omega)
  obtain rfl := HM.out
  clear hb5
  have hb5 : ((((m : Int) + 1)) == 0) = false := by rw [beq_eq_false_iff_ne]; omega
  clear hi4
  have hi4 : ¬ (8 : Int) ≤ (m : Int) + 1 := by omega
  have HP : Hid ((lf s).set 3 (.l (hd :: hd :: tl)) = lf (s.pass 3)) := Lib.hid (by
    have e : (s.pass 3).fL = hd :: hd :: tl := by simp [BNet.pass, BNet.fL, HF.out, HTL.out, HHD.out, BNet.fbit, BNet.fval]
    show _ = [_, _, _, Fd.l (s.pass 3).fL, _]
    rw [e]; rfl)
  clear n5 n4 h5 h4
  go_enter Tryd.func18, Tryd.ntmps18
  go_wp2_with fail
  refine (ref6In_any _ _ _ _).mono ?_
  rintro e w2 ⟨rfl, rfl⟩
  rw [HIN.out]
  have HB := Lib.hid (Bx.start w [.slice va vn vc, .int .i64 (sn : Int), .slice ga gn gc, .slice fa (m + 1) fc, .slice ba bn bc] [.slice none 0 0, .int .i64 0, .slice none 0 0, .slice none 0 0, .slice none 0 0] (lf s) HU.out 44 44)
  generalize ((w.alloc _).alloc _) = w2 at *
  have q0 : w2.cell? ⟨w.heap.size, 0, none⟩ = some (.slice va vn vc) := HB.out.ref.bB.cell 0
  have q1 : w2.cell? ⟨w.heap.size, 1, none⟩ = some (.int .i64 sn) := HB.out.ref.bB.cell 1
  have q2 : w2.cell? ⟨w.heap.size, 2, none⟩ = some (.slice ga gn gc) := HB.out.ref.bB.cell 2
  have q3 : w2.cell? ⟨w.heap.size, 3, none⟩ = some (.slice fa (m + 1) fc) := HB.out.ref.bB.cell 3
  have q4 : w2.cell? ⟨w.heap.size, 4, none⟩ = some (.slice ba bn bc) := HB.out.ref.bB.cell 4
  go_wp2_with fail
  refine (ref6In_any _ _ _ _).mono ?_
  rintro e w3 ⟨rfl, rfl⟩
  rw [HIN2.out]
  have HT0 : Hid (Rd (In S w w.heap.size (w.heap.size + 1)) w2 (.slice fa (m + 1) fc) (hd :: tl)) := Lib.hid (by rw [← HFL.out]; exact HB.out.at 3 rfl rfl)
  go_wp2_with fail
  refine (twice_ref (In S w w.heap.size (w.heap.size + 1)) _ hd tl w2 HT0.out (by rw [HML.out]; omega)).mono ?_
  rintro e w4 ⟨v4, rfl, hr4, hc4⟩
  have HL4 : Hid ((hd :: hd :: tl).length = m + 2) := Lib.hid (by rw [List.length_cons, List.length_cons, HML.out])
  obtain ⟨a4, c4, e4⟩ := hr4.val
  rw [HL4.out] at e4
  subst e4
  have HX4 := Lib.hid (HB.out.told (f := .l _) hr4)
  have HN4 := Lib.hid (HB.out.no hc4)
  have HB4 := Lib.hid (HN4.out.set 3 _ _ HX4.out)
  clear q0 q1 q2 q3 q4 hr4 hc4
  have q0 : w4.cell? ⟨w.heap.size, 0, none⟩ = some (.slice va vn vc) := HN4.out.ref.bB.cell 0
  have q1 : w4.cell? ⟨w.heap.size, 1, none⟩ = some (.int .i64 sn) := HN4.out.ref.bB.cell 1
  have q2 : w4.cell? ⟨w.heap.size, 2, none⟩ = some (.slice ga gn gc) := HN4.out.ref.bB.cell 2
  have q3 : w4.cell? ⟨w.heap.size, 3, none⟩ = some (.slice fa (m + 1) fc) := HN4.out.ref.bB.cell 3
  have q4 : w4.cell? ⟨w.heap.size, 4, none⟩ = some (.slice ba bn bc) := HN4.out.ref.bB.cell 4
  have zf := HN4.out.ref.bB.frozen 3
  go_wp2_with (first | (refine wpList_plain rfl (fun K hK => wp_loadT aggLine _ rfl w.heap.size [.slice va vn vc, .int .i64 (sn : Int), .slice ga gn gc, .slice a4 (m + 2) c4, .slice ba bn bc] (by rfl) HB4.out.ref.bB rfl ?_); refine hK _ _ ?_; clear hK) | (refine wpList_plain rfl (fun K hK => wp_storeT aggLine _ _ rfl (w.heap.size + 1) [.slice va vn vc, .int .i64 (sn : Int), .slice ga gn gc, .slice a4 (m + 2) c4, .slice ba bn bc] _ (by rfl) (by rfl) rfl HB4.out.ref.bR rfl rfl ?_); intro wz hBz hcz; have HBZ := Lib.hid (HB4.out.setR hBz hcz); clear hBz hcz; refine hK _ _ ?_; clear hK))
  (try simp only [Exit.inBlock, Exit.then]); refine bodyPost_ret (results_cell2 aggLine rfl _ _ _ _ (by rfl) HBZ.out.ref.bR rfl) rfl ?_
  rw [HE.out, HDO.out]
  have hz := HBZ.out.ans
  rw [HP.out] at hz
  exact ⟨_, rfl, hz⟩

set_option maxHeartbeats 8000000 in
set_option maxRecDepth 100000 in
theorem hap5 (S : Nat → Prop) (w : World) (us : List Value) (s : BNet) (h : RdS S w us (lf s)) (hs : BInv s) :
    Calls Tryd.prog 18 #[.agg us.toArray, .int .i64 5] w (LAns S w (s.act 5) (s.err 5)) := by
  obtain ⟨va, vc, ga, gc, fa, fc, ba, bc, rfl⟩ := lf_opn h
  have HU := Lib.hid h
  have HS := Lib.hid hs
  obtain ⟨vn, HVN⟩ : ∃ n, Hid (s.vals.length = n) := ⟨_, Lib.hid rfl⟩
  obtain ⟨sn, HSN⟩ : ∃ n, Hid (s.sent = n) := ⟨_, Lib.hid rfl⟩
  obtain ⟨gn, HGN⟩ : ∃ n, Hid (s.got.length = n) := ⟨_, Lib.hid rfl⟩
  obtain ⟨fn, HFN⟩ : ∃ n, Hid (s.forth.length = n) := ⟨_, Lib.hid rfl⟩
  obtain ⟨bn, HBN⟩ : ∃ n, Hid (s.back.length = n) := ⟨_, Lib.hid rfl⟩
  have hsv := hs.sle
  have hv20 := hs.v20
  have hgv := hs.gle
  have hf8 := hs.f8
  have hb8 := hs.b8
  rw [HVN.out, HSN.out, HGN.out, HFN.out, HBN.out] at HU ⊢
  rw [HVN.out, HSN.out] at hsv
  rw [HVN.out] at hv20
  rw [HVN.out, HGN.out] at hgv
  rw [HFN.out] at hf8
  rw [HBN.out] at hb8
  clear h hs
  have BAD : Hid (∀ x (w' : World), s.err 5 = x → x ≠ 0 → Bx S w w' w.heap.size (w.heap.size + 1) [.slice va vn vc, .int .i64 (sn : Int), .slice ga gn gc, .slice fa fn fc, .slice ba bn bc] [.slice va vn vc, .int .i64 (sn : Int), .slice ga gn gc, .slice fa fn fc, .slice ba bn bc] (lf s) → LAns S w (s.act 5) (s.err 5) (.returned (.tuple #[.agg #[.slice va vn vc, .int .i64 (sn : Int), .slice ga gn gc, .slice fa fn fc, .slice ba bn bc], .int .i64 x])) w') := Lib.hid fun x w' he hx hR => by
    have h1 : s.act 5 = s := by unfold BNet.act; rw [if_neg (by rw [he]; exact hx)]
    rw [h1, he]
    exact ⟨_, rfl, hR.ans⟩
  have HIN : Hid (inB (5 : Int) 0 6 = true) := Lib.hid (by decide)
  have HIN2 : Hid (inB (5 : Int) 1 3 = false) := Lib.hid (by decide)
  by_cases h5 : bn = 0
  · have e5 : s.back.length = 0 := by rw [HBN.out]; exact h5
    have HE : Hid (s.err 5 = 5) := Lib.hid (by simp [BNet.err, e5])
    have hb5 : ((bn : Int) == 0) = true := by rw [beq_iff_eq]; omega
    clear h5 e5
    go_enter Tryd.func18, Tryd.ntmps18
    go_wp2_with fail
    refine (ref6In_any _ _ _ _).mono ?_
    rintro e w2 ⟨rfl, rfl⟩
    rw [HIN.out]
    have HB := Lib.hid (Bx.start w [.slice va vn vc, .int .i64 (sn : Int), .slice ga gn gc, .slice fa fn fc, .slice ba bn bc] [.slice none 0 0, .int .i64 0, .slice none 0 0, .slice none 0 0, .slice none 0 0] (lf s) HU.out 44 44)
    generalize ((w.alloc _).alloc _) = w2 at *
    have q0 : w2.cell? ⟨w.heap.size, 0, none⟩ = some (.slice va vn vc) := HB.out.ref.bB.cell 0
    have q1 : w2.cell? ⟨w.heap.size, 1, none⟩ = some (.int .i64 sn) := HB.out.ref.bB.cell 1
    have q2 : w2.cell? ⟨w.heap.size, 2, none⟩ = some (.slice ga gn gc) := HB.out.ref.bB.cell 2
    have q3 : w2.cell? ⟨w.heap.size, 3, none⟩ = some (.slice fa fn fc) := HB.out.ref.bB.cell 3
    have q4 : w2.cell? ⟨w.heap.size, 4, none⟩ = some (.slice ba bn bc) := HB.out.ref.bB.cell 4
    go_wp2_with fail
    refine (ref6In_any _ _ _ _).mono ?_
    rintro e w3 ⟨rfl, rfl⟩
    rw [HIN2.out]
    go_wp2_with (first | (refine wpList_plain rfl (fun K hK => wp_loadT aggLine _ rfl w.heap.size [.slice va vn vc, .int .i64 (sn : Int), .slice ga gn gc, .slice fa fn fc, .slice ba bn bc] (by rfl) HB.out.ref.bB rfl ?_); refine hK _ _ ?_; clear hK) | (refine wpList_plain rfl (fun K hK => wp_storeT aggLine _ _ rfl (w.heap.size + 1) [.slice va vn vc, .int .i64 (sn : Int), .slice ga gn gc, .slice fa fn fc, .slice ba bn bc] _ (by rfl) (by rfl) rfl HB.out.ref.bR rfl rfl ?_); intro wz hBz hcz; have HB3 := Lib.hid (HB.out.setR hBz hcz); clear hBz hcz; refine hK _ _ ?_; clear hK))
    (try simp only [Exit.inBlock, Exit.then]); refine bodyPost_ret (results_cell2 aggLine rfl _ _ _ _ (by rfl) HB3.out.ref.bR rfl) rfl ?_
    exact BAD.out 5 _ HE.out (by omega) HB3.out
  have n5 : ¬ s.back.length = 0 := by rw [HBN.out]; exact h5
  have hb5 : ((bn : Int) == 0) = false := by rw [beq_eq_false_iff_ne]; omega
  have HE : Hid (s.err 5 = 0) := Lib.hid (by simp [BNet.err, n5])
  have HDO : Hid (s.act 5 = s.pass 5) := Lib.hid (by unfold BNet.act; rw [if_pos HE.out])
  obtain ⟨pb, bt, HF⟩ : ∃ f ft, Hid (s.back = f :: ft) := by
    cases hcs : s.back with
    | nil => exact absurd (by rw [hcs]; rfl) n5
    | cons f ft => exact ⟨f, ft, Lib.hid rfl⟩
  obtain ⟨tl, HTL⟩ : ∃ tl, Hid (bt.map (fun (b : Nat) => (b : Int)) = tl) := ⟨_, Lib.hid rfl⟩
  obtain ⟨hd, HHD⟩ : ∃ hd : Int, Hid ((pb : Int) = hd) := ⟨_, Lib.hid rfl⟩
  have HFL : Hid (s.bL = hd :: tl) := Lib.hid (by unfold BNet.bL; rw [HF.out, List.map_cons, HTL.out, HHD.out])
  obtain ⟨m, HM⟩ : ∃ m, Hid (bn = m + 1) := ⟨bn - 1, Lib.hid (by omega)⟩
  have HML : Hid (tl.length = m) := Lib.hid (by rw [← HTL.out, List.length_map]; have := HBN.out; rw [HF.out, List.length_cons] at this; have := HM.out; omega)
  obtain rfl := HM.out
  clear hb5
  have hb5 : ((((m : Int) + 1)) == 0) = false := by rw [beq_eq_false_iff_ne]; omega
  have HP : Hid ((lf s).set 4 (.l tl) = lf (s.pass 5)) := Lib.hid (by
    have e : (s.pass 5).bL = tl := by simp [BNet.pass, BNet.bL, HF.out, HTL.out]
    show _ = [_, _, _, _, Fd.l (s.pass 5).bL]
    rw [e]; rfl)
  clear n5 h5
  go_enter Tryd.func18, Tryd.ntmps18
  go_wp2_with fail
  refine (ref6In_any _ _ _ _).mono ?_
  rintro e w2 ⟨rfl, rfl⟩
  rw [HIN.out]
  have HB := Lib.hid (Bx.start w [.slice va vn vc, .int .i64 (sn : Int), .slice ga gn gc, .slice fa fn fc, .slice ba (m + 1) bc] [.slice none 0 0, .int .i64 0, .slice none 0 0, .slice none 0 0, .slice none 0 0] (lf s) HU.out 44 44)
  generalize ((w.alloc _).alloc _) = w2 at *
  have HT0 : Hid (Rd (In S w w.heap.size (w.heap.size + 1)) w2 (.slice ba (m + 1) bc) (hd :: tl)) := Lib.hid (by rw [← HFL.out]; exact HB.out.at 4 rfl rfl)
  obtain ⟨bB, oB, cB, ev, -, hcap, hcH⟩ := HT0.out.formC (by simp)
  rw [show (hd :: tl).length = m + 1 by rw [List.length_cons, HML.out]] at ev hcap
  simp only [Value.slice.injEq] at ev
  obtain ⟨rfl, -, rfl⟩ := ev
  have dH := hcH 0 (by simp)
  rw [show (hd :: tl).getD 0 0 = hd from rfl, Nat.add_zero] at dH
  clear hcH
  obtain ⟨off, hoff, hoff2⟩ := tail_off2 bB oB bc m hcap
  have HT1 : Hid (Rd (In S w w.heap.size (w.heap.size + 1)) w2 (.slice (some ⟨bB, oB, none⟩) (m + 1) bc) (hd :: tl)) := Lib.hid (by rw [← HFL.out]; exact HB.out.at 4 rfl rfl)
  have HTA : Hid (RdF (In S w w.heap.size (w.heap.size + 1)) w2 (.slice (some ⟨bB, off, none⟩) m (bc - 1)) (.l tl)) := Lib.hid (Rd.tail2 HT1.out HML.out hoff2)
  have hcap2 : (m : Int) + 1 ≤ bc := by omega
  clear hoff2
  have q0 : w2.cell? ⟨w.heap.size, 0, none⟩ = some (.slice va vn vc) := HB.out.ref.bB.cell 0
  have q1 : w2.cell? ⟨w.heap.size, 1, none⟩ = some (.int .i64 sn) := HB.out.ref.bB.cell 1
  have q2 : w2.cell? ⟨w.heap.size, 2, none⟩ = some (.slice ga gn gc) := HB.out.ref.bB.cell 2
  have q3 : w2.cell? ⟨w.heap.size, 3, none⟩ = some (.slice fa fn fc) := HB.out.ref.bB.cell 3
  have q4 : w2.cell? ⟨w.heap.size, 4, none⟩ = some (.slice (some ⟨bB, oB, none⟩) (m + 1) bc) := HB.out.ref.bB.cell 4
  go_wp2_with fail
  refine (ref6In_any _ _ _ _).mono ?_
  rintro e w3 ⟨rfl, rfl⟩
  rw [HIN2.out]
  have zf := HB.out.ref.bB.frozen 4
  have HB5 := Lib.hid (HB.out.set 4 _ _ HTA.out)
  go_wp2_with (first | (refine wpList_plain rfl (fun K hK => wp_loadT aggLine _ rfl w.heap.size [.slice va vn vc, .int .i64 (sn : Int), .slice ga gn gc, .slice fa fn fc, .slice (some ⟨bB, off, none⟩) m (bc - 1)] (by rfl) HB5.out.ref.bB rfl ?_); refine hK _ _ ?_; clear hK) | (refine wpList_plain rfl (fun K hK => wp_storeT aggLine _ _ rfl (w.heap.size + 1) [.slice va vn vc, .int .i64 (sn : Int), .slice ga gn gc, .slice fa fn fc, .slice (some ⟨bB, off, none⟩) m (bc - 1)] _ (by rfl) (by rfl) rfl HB5.out.ref.bR rfl rfl ?_); intro wz hBz hcz; have HBZ := Lib.hid (HB5.out.setR hBz hcz); clear hBz hcz; refine hK _ _ ?_; clear hK))
  (try simp only [Exit.inBlock, Exit.then]); refine bodyPost_ret (results_cell2 aggLine rfl _ _ _ _ (by rfl) HBZ.out.ref.bR rfl) rfl ?_
  rw [HE.out, HDO.out]
  have hz := HBZ.out.ans
  rw [HP.out] at hz
  exact ⟨_, rfl, hz⟩

set_option maxHeartbeats 8000000 in
set_option maxRecDepth 100000 in
theorem hap6 (S : Nat → Prop) (w : World) (us : List Value) (s : BNet) (h : RdS S w us (lf s)) (hs : BInv s) :
    Calls Tryd.prog 18 #[.agg us.toArray, .int .i64 6] w (LAns S w (s.act 6) (s.err 6)) := by
  obtain ⟨va, vc, ga, gc, fa, fc, ba, bc, rfl⟩ := lf_opn h
  have HU := Lib.hid h
  have HS := Lib.hid hs
  obtain ⟨vn, HVN⟩ : ∃ n, Hid (s.vals.length = n) := ⟨_, Lib.hid rfl⟩
  obtain ⟨sn, HSN⟩ : ∃ n, Hid (s.sent = n) := ⟨_, Lib.hid rfl⟩
  obtain ⟨gn, HGN⟩ : ∃ n, Hid (s.got.length = n) := ⟨_, Lib.hid rfl⟩
  obtain ⟨fn, HFN⟩ : ∃ n, Hid (s.forth.length = n) := ⟨_, Lib.hid rfl⟩
  obtain ⟨bn, HBN⟩ : ∃ n, Hid (s.back.length = n) := ⟨_, Lib.hid rfl⟩
  have hsv := hs.sle
  have hv20 := hs.v20
  have hgv := hs.gle
  have hf8 := hs.f8
  have hb8 := hs.b8
  rw [HVN.out, HSN.out, HGN.out, HFN.out, HBN.out] at HU ⊢
  rw [HVN.out, HSN.out] at hsv
  rw [HVN.out] at hv20
  rw [HVN.out, HGN.out] at hgv
  rw [HFN.out] at hf8
  rw [HBN.out] at hb8
  clear h hs
  have BAD : Hid (∀ x (w' : World), s.err 6 = x → x ≠ 0 → Bx S w w' w.heap.size (w.heap.size + 1) [.slice va vn vc, .int .i64 (sn : Int), .slice ga gn gc, .slice fa fn fc, .slice ba bn bc] [.slice va vn vc, .int .i64 (sn : Int), .slice ga gn gc, .slice fa fn fc, .slice ba bn bc] (lf s) → LAns S w (s.act 6) (s.err 6) (.returned (.tuple #[.agg #[.slice va vn vc, .int .i64 (sn : Int), .slice ga gn gc, .slice fa fn fc, .slice ba bn bc], .int .i64 x])) w') := Lib.hid fun x w' he hx hR => by
    have h1 : s.act 6 = s := by unfold BNet.act; rw [if_neg (by rw [he]; exact hx)]
    rw [h1, he]
    exact ⟨_, rfl, hR.ans⟩
  have HIN : Hid (inB (6 : Int) 0 6 = true) := Lib.hid (by decide)
  have HIN2 : Hid (inB (6 : Int) 1 3 = false) := Lib.hid (by decide)
  by_cases h5 : bn = 0
  · have e5 : s.back.length = 0 := by rw [HBN.out]; exact h5
    have HE : Hid (s.err 6 = 5) := Lib.hid (by simp [BNet.err, e5])
    have hb5 : ((bn : Int) == 0) = true := by rw [beq_iff_eq]; omega
    clear h5 e5
    go_enter Tryd.func18, Tryd.ntmps18
    go_wp2_with fail
    refine (ref6In_any _ _ _ _).mono ?_
    rintro e w2 ⟨rfl, rfl⟩
    rw [HIN.out]
    have HB := Lib.hid (Bx.start w [.slice va vn vc, .int .i64 (sn : Int), .slice ga gn gc, .slice fa fn fc, .slice ba bn bc] [.slice none 0 0, .int .i64 0, .slice none 0 0, .slice none 0 0, .slice none 0 0] (lf s) HU.out 44 44)
    generalize ((w.alloc _).alloc _) = w2 at *
    have q0 : w2.cell? ⟨w.heap.size, 0, none⟩ = some (.slice va vn vc) := HB.out.ref.bB.cell 0
    have q1 : w2.cell? ⟨w.heap.size, 1, none⟩ = some (.int .i64 sn) := HB.out.ref.bB.cell 1
    have q2 : w2.cell? ⟨w.heap.size, 2, none⟩ = some (.slice ga gn gc) := HB.out.ref.bB.cell 2
    have q3 : w2.cell? ⟨w.heap.size, 3, none⟩ = some (.slice fa fn fc) := HB.out.ref.bB.cell 3
    have q4 : w2.cell? ⟨w.heap.size, 4, none⟩ = some (.slice ba bn bc) := HB.out.ref.bB.cell 4
    go_wp2_with fail
    refine (ref6In_any _ _ _ _).mono ?_
    rintro e w3 ⟨rfl, rfl⟩
    rw [HIN2.out]
    go_wp2_with (first | (refine wpList_plain rfl (fun K hK => wp_loadT aggLine _ rfl w.heap.size [.slice va vn vc, .int .i64 (sn : Int), .slice ga gn gc, .slice fa fn fc, .slice ba bn bc] (by rfl) HB.out.ref.bB rfl ?_); refine hK _ _ ?_; clear hK) | (refine wpList_plain rfl (fun K hK => wp_storeT aggLine _ _ rfl (w.heap.size + 1) [.slice va vn vc, .int .i64 (sn : Int), .slice ga gn gc, .slice fa fn fc, .slice ba bn bc] _ (by rfl) (by rfl) rfl HB.out.ref.bR rfl rfl ?_); intro wz hBz hcz; have HB3 := Lib.hid (HB.out.setR hBz hcz); clear hBz hcz; refine hK _ _ ?_; clear hK))
    (try simp only [Exit.inBlock, Exit.then]); refine bodyPost_ret (results_cell2 aggLine rfl _ _ _ _ (by rfl) HB3.out.ref.bR rfl) rfl ?_
    exact BAD.out 5 _ HE.out (by omega) HB3.out
  have n5 : ¬ s.back.length = 0 := by rw [HBN.out]; exact h5
  have hb5 : ((bn : Int) == 0) = false := by rw [beq_eq_false_iff_ne]; omega
  by_cases h4 : 8 ≤ bn
  · have e4 : 8 ≤ s.back.length := by rw [HBN.out]; exact h4
    have HE : Hid (s.err 6 = 4) := Lib.hid (by simp [BNet.err, n5, e4])
    have hi4 : (8 : Int) ≤ bn := by omega
    clear h4 e4 n5 h5
    go_enter Tryd.func18, Tryd.ntmps18
    go_wp2_with fail
    refine (ref6In_any _ _ _ _).mono ?_
    rintro e w2 ⟨rfl, rfl⟩
    rw [HIN.out]
    have HB := Lib.hid (Bx.start w [.slice va vn vc, .int .i64 (sn : Int), .slice ga gn gc, .slice fa fn fc, .slice ba bn bc] [.slice none 0 0, .int .i64 0, .slice none 0 0, .slice none 0 0, .slice none 0 0] (lf s) HU.out 44 44)
    generalize ((w.alloc _).alloc _) = w2 at *
    have q0 : w2.cell? ⟨w.heap.size, 0, none⟩ = some (.slice va vn vc) := HB.out.ref.bB.cell 0
    have q1 : w2.cell? ⟨w.heap.size, 1, none⟩ = some (.int .i64 sn) := HB.out.ref.bB.cell 1
    have q2 : w2.cell? ⟨w.heap.size, 2, none⟩ = some (.slice ga gn gc) := HB.out.ref.bB.cell 2
    have q3 : w2.cell? ⟨w.heap.size, 3, none⟩ = some (.slice fa fn fc) := HB.out.ref.bB.cell 3
    have q4 : w2.cell? ⟨w.heap.size, 4, none⟩ = some (.slice ba bn bc) := HB.out.ref.bB.cell 4
    go_wp2_with fail
    refine (ref6In_any _ _ _ _).mono ?_
    rintro e w3 ⟨rfl, rfl⟩
    rw [HIN2.out]
    go_wp2_with (first | (refine wpList_plain rfl (fun K hK => wp_loadT aggLine _ rfl w.heap.size [.slice va vn vc, .int .i64 (sn : Int), .slice ga gn gc, .slice fa fn fc, .slice ba bn bc] (by rfl) HB.out.ref.bB rfl ?_); refine hK _ _ ?_; clear hK) | (refine wpList_plain rfl (fun K hK => wp_storeT aggLine _ _ rfl (w.heap.size + 1) [.slice va vn vc, .int .i64 (sn : Int), .slice ga gn gc, .slice fa fn fc, .slice ba bn bc] _ (by rfl) (by rfl) rfl HB.out.ref.bR rfl rfl ?_); intro wz hBz hcz; have HB3 := Lib.hid (HB.out.setR hBz hcz); clear hBz hcz; refine hK _ _ ?_; clear hK))
    (try simp only [Exit.inBlock, Exit.then]); refine bodyPost_ret (results_cell2 aggLine rfl _ _ _ _ (by rfl) HB3.out.ref.bR rfl) rfl ?_
    exact BAD.out 4 _ HE.out (by omega) HB3.out
  have n4 : ¬ 8 ≤ s.back.length := by rw [HBN.out]; exact h4
  have hi4 : ¬ (8 : Int) ≤ bn := by omega
  have HE : Hid (s.err 6 = 0) := Lib.hid (by simp [BNet.err, n5, n4])
  have HDO : Hid (s.act 6 = s.pass 6) := Lib.hid (by unfold BNet.act; rw [if_pos HE.out])
  obtain ⟨pb, bt, HF⟩ : ∃ f ft, Hid (s.back = f :: ft) := by
    cases hcs : s.back with
    | nil => exact absurd (by rw [hcs]; rfl) n5
    | cons f ft => exact ⟨f, ft, Lib.hid rfl⟩
  obtain ⟨tl, HTL⟩ : ∃ tl, Hid (bt.map (fun (b : Nat) => (b : Int)) = tl) := ⟨_, Lib.hid rfl⟩
  obtain ⟨hd, HHD⟩ : ∃ hd : Int, Hid ((pb : Int) = hd) := ⟨_, Lib.hid rfl⟩
  have HFL : Hid (s.bL = hd :: tl) := Lib.hid (by unfold BNet.bL; rw [HF.out, List.map_cons, HTL.out, HHD.out])
  obtain ⟨m, HM⟩ : ∃ m, Hid (bn = m + 1) := ⟨bn - 1, Lib.hid (by omega)⟩
  have HML : Hid (tl.length = m) := Lib.hid (by rw [← HTL.out, List.length_map]; have := HBN.out; rw [HF.out, List.length_cons] at this; have := HM.out; omega)
  obtain rfl := HM.out
  clear hb5
  have hb5 : ((((m : Int) + 1)) == 0) = false := by rw [beq_eq_false_iff_ne]; omega
  clear hi4
  have hi4 : ¬ (8 : Int) ≤ (m : Int) + 1 := by omega
  have HP : Hid ((lf s).set 4 (.l (hd :: hd :: tl)) = lf (s.pass 6)) := Lib.hid (by
    have e : (s.pass 6).bL = hd :: hd :: tl := by simp [BNet.pass, BNet.bL, HF.out, HTL.out, HHD.out, BNet.bbit]
    show _ = [_, _, _, _, Fd.l (s.pass 6).bL]
    rw [e]; rfl)
  clear n5 n4 h5 h4
  go_enter Tryd.func18, Tryd.ntmps18
  go_wp2_with fail
  refine (ref6In_any _ _ _ _).mono ?_
  rintro e w2 ⟨rfl, rfl⟩
  rw [HIN.out]
  have HB := Lib.hid (Bx.start w [.slice va vn vc, .int .i64 (sn : Int), .slice ga gn gc, .slice fa fn fc, .slice ba (m + 1) bc] [.slice none 0 0, .int .i64 0, .slice none 0 0, .slice none 0 0, .slice none 0 0] (lf s) HU.out 44 44)
  generalize ((w.alloc _).alloc _) = w2 at *
  have q0 : w2.cell? ⟨w.heap.size, 0, none⟩ = some (.slice va vn vc) := HB.out.ref.bB.cell 0
  have q1 : w2.cell? ⟨w.heap.size, 1, none⟩ = some (.int .i64 sn) := HB.out.ref.bB.cell 1
  have q2 : w2.cell? ⟨w.heap.size, 2, none⟩ = some (.slice ga gn gc) := HB.out.ref.bB.cell 2
  have q3 : w2.cell? ⟨w.heap.size, 3, none⟩ = some (.slice fa fn fc) := HB.out.ref.bB.cell 3
  have q4 : w2.cell? ⟨w.heap.size, 4, none⟩ = some (.slice ba (m + 1) bc) := HB.out.ref.bB.cell 4
  go_wp2_with fail
  refine (ref6In_any _ _ _ _).mono ?_
  rintro e w3 ⟨rfl, rfl⟩
  rw [HIN2.out]
  have HT0 : Hid (Rd (In S w w.heap.size (w.heap.size + 1)) w2 (.slice ba (m + 1) bc) (hd :: tl)) := Lib.hid (by rw [← HFL.out]; exact HB.out.at 4 rfl rfl)
  go_wp2_with fail
  refine (twice_ref (In S w w.heap.size (w.heap.size + 1)) _ hd tl w2 HT0.out (by rw [HML.out]; omega)).mono ?_
  rintro e w4 ⟨v4, rfl, hr4, hc4⟩
  have HL4 : Hid ((hd :: hd :: tl).length = m + 2) := Lib.hid (by rw [List.length_cons, List.length_cons, HML.out])
  obtain ⟨a4, c4, e4⟩ := hr4.val
  rw [HL4.out] at e4
  subst e4
  have HX4 := Lib.hid (HB.out.told (f := .l _) hr4)
  have HN4 := Lib.hid (HB.out.no hc4)
  have HB4 := Lib.hid (HN4.out.set 4 _ _ HX4.out)
  clear q0 q1 q2 q3 q4 hr4 hc4
  have q0 : w4.cell? ⟨w.heap.size, 0, none⟩ = some (.slice va vn vc) := HN4.out.ref.bB.cell 0
  have q1 : w4.cell? ⟨w.heap.size, 1, none⟩ = some (.int .i64 sn) := HN4.out.ref.bB.cell 1
  have q2 : w4.cell? ⟨w.heap.size, 2, none⟩ = some (.slice ga gn gc) := HN4.out.ref.bB.cell 2
  have q3 : w4.cell? ⟨w.heap.size, 3, none⟩ = some (.slice fa fn fc) := HN4.out.ref.bB.cell 3
  have q4 : w4.cell? ⟨w.heap.size, 4, none⟩ = some (.slice ba (m + 1) bc) := HN4.out.ref.bB.cell 4
  have zf := HN4.out.ref.bB.frozen 4
  go_wp2_with (first | (refine wpList_plain rfl (fun K hK => wp_loadT aggLine _ rfl w.heap.size [.slice va vn vc, .int .i64 (sn : Int), .slice ga gn gc, .slice fa fn fc, .slice a4 (m + 2) c4] (by rfl) HB4.out.ref.bB rfl ?_); refine hK _ _ ?_; clear hK) | (refine wpList_plain rfl (fun K hK => wp_storeT aggLine _ _ rfl (w.heap.size + 1) [.slice va vn vc, .int .i64 (sn : Int), .slice ga gn gc, .slice fa fn fc, .slice a4 (m + 2) c4] _ (by rfl) (by rfl) rfl HB4.out.ref.bR rfl rfl ?_); intro wz hBz hcz; have HBZ := Lib.hid (HB4.out.setR hBz hcz); clear hBz hcz; refine hK _ _ ?_; clear hK))
  (try simp only [Exit.inBlock, Exit.then]); refine bodyPost_ret (results_cell2 aggLine rfl _ _ _ _ (by rfl) HBZ.out.ref.bR rfl) rfl ?_
  rw [HE.out, HDO.out]
  have hz := HBZ.out.ans
  rw [HP.out] at hz
  exact ⟨_, rfl, hz⟩

set_option maxHeartbeats 8000000 in
set_option maxRecDepth 100000 in
theorem hap1 (S : Nat → Prop) (w : World) (us : List Value) (s : BNet) (h : RdS S w us (lf s)) (hs : BInv s) :
    Calls Tryd.prog 18 #[.agg us.toArray, .int .i64 1] w (LAns S w (s.act 1) (s.err 1)) := by
  obtain ⟨va, vc, ga, gc, fa, fc, ba, bc, rfl⟩ := lf_opn h
  have HU := Lib.hid h
  have HS := Lib.hid hs
  obtain ⟨vn, HVN⟩ : ∃ n, Hid (s.vals.length = n) := ⟨_, Lib.hid rfl⟩
  obtain ⟨sn, HSN⟩ : ∃ n, Hid (s.sent = n) := ⟨_, Lib.hid rfl⟩
  obtain ⟨gn, HGN⟩ : ∃ n, Hid (s.got.length = n) := ⟨_, Lib.hid rfl⟩
  obtain ⟨fn, HFN⟩ : ∃ n, Hid (s.forth.length = n) := ⟨_, Lib.hid rfl⟩
  obtain ⟨bn, HBN⟩ : ∃ n, Hid (s.back.length = n) := ⟨_, Lib.hid rfl⟩
  have hsv := hs.sle
  have hv20 := hs.v20
  have hgv := hs.gle
  have hf8 := hs.f8
  have hb8 := hs.b8
  rw [HVN.out, HSN.out, HGN.out, HFN.out, HBN.out] at HU ⊢
  rw [HVN.out, HSN.out] at hsv
  rw [HVN.out] at hv20
  rw [HVN.out, HGN.out] at hgv
  rw [HFN.out] at hf8
  rw [HBN.out] at hb8
  clear h hs
  have BAD : Hid (∀ x (w' : World), s.err 1 = x → x ≠ 0 → Bx S w w' w.heap.size (w.heap.size + 1) [.slice va vn vc, .int .i64 (sn : Int), .slice ga gn gc, .slice fa fn fc, .slice ba bn bc] [.slice va vn vc, .int .i64 (sn : Int), .slice ga gn gc, .slice fa fn fc, .slice ba bn bc] (lf s) → LAns S w (s.act 1) (s.err 1) (.returned (.tuple #[.agg #[.slice va vn vc, .int .i64 (sn : Int), .slice ga gn gc, .slice fa fn fc, .slice ba bn bc], .int .i64 x])) w') := Lib.hid fun x w' he hx hR => by
    have h1 : s.act 1 = s := by unfold BNet.act; rw [if_neg (by rw [he]; exact hx)]
    rw [h1, he]
    exact ⟨_, rfl, hR.ans⟩
  have HIN : Hid (inB (1 : Int) 0 6 = true) := Lib.hid (by decide)
  have HIN2 : Hid (inB (1 : Int) 1 3 = true) := Lib.hid (by decide)
  by_cases h5 : fn = 0
  · have e5 : s.forth.length = 0 := by rw [HFN.out]; exact h5
    have HE : Hid (s.err 1 = 5) := Lib.hid (by simp [BNet.err, e5])
    have hb5 : ((fn : Int) == 0) = true := by rw [beq_iff_eq]; omega
    clear h5 e5
    go_enter Tryd.func18, Tryd.ntmps18
    go_wp2_with fail
    refine (ref6In_any _ _ _ _).mono ?_
    rintro e w2 ⟨rfl, rfl⟩
    rw [HIN.out]
    have HB := Lib.hid (Bx.start w [.slice va vn vc, .int .i64 (sn : Int), .slice ga gn gc, .slice fa fn fc, .slice ba bn bc] [.slice none 0 0, .int .i64 0, .slice none 0 0, .slice none 0 0, .slice none 0 0] (lf s) HU.out 44 44)
    generalize ((w.alloc _).alloc _) = w2 at *
    have q0 : w2.cell? ⟨w.heap.size, 0, none⟩ = some (.slice va vn vc) := HB.out.ref.bB.cell 0
    have q1 : w2.cell? ⟨w.heap.size, 1, none⟩ = some (.int .i64 sn) := HB.out.ref.bB.cell 1
    have q2 : w2.cell? ⟨w.heap.size, 2, none⟩ = some (.slice ga gn gc) := HB.out.ref.bB.cell 2
    have q3 : w2.cell? ⟨w.heap.size, 3, none⟩ = some (.slice fa fn fc) := HB.out.ref.bB.cell 3
    have q4 : w2.cell? ⟨w.heap.size, 4, none⟩ = some (.slice ba bn bc) := HB.out.ref.bB.cell 4
    go_wp2_with fail
    refine (ref6In_any _ _ _ _).mono ?_
    rintro e w3 ⟨rfl, rfl⟩
    rw [HIN2.out]
    go_wp2_with (first | (refine wpList_plain rfl (fun K hK => wp_loadT aggLine _ rfl w.heap.size [.slice va vn vc, .int .i64 (sn : Int), .slice ga gn gc, .slice fa fn fc, .slice ba bn bc] (by rfl) HB.out.ref.bB rfl ?_); refine hK _ _ ?_; clear hK) | (refine wpList_plain rfl (fun K hK => wp_storeT aggLine _ _ rfl (w.heap.size + 1) [.slice va vn vc, .int .i64 (sn : Int), .slice ga gn gc, .slice fa fn fc, .slice ba bn bc] _ (by rfl) (by rfl) rfl HB.out.ref.bR rfl rfl ?_); intro wz hBz hcz; have HB3 := Lib.hid (HB.out.setR hBz hcz); clear hBz hcz; refine hK _ _ ?_; clear hK))
    (try simp only [Exit.inBlock, Exit.then]); refine bodyPost_ret (results_cell2 aggLine rfl _ _ _ _ (by rfl) HB3.out.ref.bR rfl) rfl ?_
    exact BAD.out 5 _ HE.out (by omega) HB3.out
  have n5 : ¬ s.forth.length = 0 := by rw [HFN.out]; exact h5
  have hb5 : ((fn : Int) == 0) = false := by rw [beq_eq_false_iff_ne]; omega
  by_cases h4 : 8 ≤ bn
  · have e4 : 8 ≤ s.back.length := by rw [HBN.out]; exact h4
    have HE : Hid (s.err 1 = 4) := Lib.hid (by simp [BNet.err, n5, e4])
    have hi4 : (8 : Int) ≤ bn := by omega
    clear h4 e4 n5 h5
    go_enter Tryd.func18, Tryd.ntmps18
    go_wp2_with fail
    refine (ref6In_any _ _ _ _).mono ?_
    rintro e w2 ⟨rfl, rfl⟩
    rw [HIN.out]
    have HB := Lib.hid (Bx.start w [.slice va vn vc, .int .i64 (sn : Int), .slice ga gn gc, .slice fa fn fc, .slice ba bn bc] [.slice none 0 0, .int .i64 0, .slice none 0 0, .slice none 0 0, .slice none 0 0] (lf s) HU.out 44 44)
    generalize ((w.alloc _).alloc _) = w2 at *
    have q0 : w2.cell? ⟨w.heap.size, 0, none⟩ = some (.slice va vn vc) := HB.out.ref.bB.cell 0
    have q1 : w2.cell? ⟨w.heap.size, 1, none⟩ = some (.int .i64 sn) := HB.out.ref.bB.cell 1
    have q2 : w2.cell? ⟨w.heap.size, 2, none⟩ = some (.slice ga gn gc) := HB.out.ref.bB.cell 2
    have q3 : w2.cell? ⟨w.heap.size, 3, none⟩ = some (.slice fa fn fc) := HB.out.ref.bB.cell 3
    have q4 : w2.cell? ⟨w.heap.size, 4, none⟩ = some (.slice ba bn bc) := HB.out.ref.bB.cell 4
    go_wp2_with fail
    refine (ref6In_any _ _ _ _).mono ?_
    rintro e w3 ⟨rfl, rfl⟩
    rw [HIN2.out]
    go_wp2_with (first | (refine wpList_plain rfl (fun K hK => wp_loadT aggLine _ rfl w.heap.size [.slice va vn vc, .int .i64 (sn : Int), .slice ga gn gc, .slice fa fn fc, .slice ba bn bc] (by rfl) HB.out.ref.bB rfl ?_); refine hK _ _ ?_; clear hK) | (refine wpList_plain rfl (fun K hK => wp_storeT aggLine _ _ rfl (w.heap.size + 1) [.slice va vn vc, .int .i64 (sn : Int), .slice ga gn gc, .slice fa fn fc, .slice ba bn bc] _ (by rfl) (by rfl) rfl HB.out.ref.bR rfl rfl ?_); intro wz hBz hcz; have HB3 := Lib.hid (HB.out.setR hBz hcz); clear hBz hcz; refine hK _ _ ?_; clear hK))
    (try simp only [Exit.inBlock, Exit.then]); refine bodyPost_ret (results_cell2 aggLine rfl _ _ _ _ (by rfl) HB3.out.ref.bR rfl) rfl ?_
    exact BAD.out 4 _ HE.out (by omega) HB3.out
  have n4 : ¬ 8 ≤ s.back.length := by rw [HBN.out]; exact h4
  have hi4 : ¬ (8 : Int) ≤ bn := by omega
  have HE : Hid (s.err 1 = 0) := Lib.hid (by simp [BNet.err, n5, n4])
  have HDO : Hid (s.act 1 = s.pass 1) := Lib.hid (by unfold BNet.act; rw [if_pos HE.out])
  obtain ⟨pf, ft, HF⟩ : ∃ f ft, Hid (s.forth = f :: ft) := by
    cases hcs : s.forth with
    | nil => exact absurd (by rw [hcs]; rfl) n5
    | cons f ft => exact ⟨f, ft, Lib.hid rfl⟩
  obtain ⟨tl, HTL⟩ : ∃ tl, Hid (ft.map (fun f => 2 * f.2 + (f.1 : Int)) = tl) := ⟨_, Lib.hid rfl⟩
  obtain ⟨hd, HHD⟩ : ∃ hd : Int, Hid (2 * pf.2 + (pf.1 : Int) = hd) := ⟨_, Lib.hid rfl⟩
  have HFL : Hid (s.fL = hd :: tl) := Lib.hid (by unfold BNet.fL; rw [HF.out, List.map_cons, HTL.out, HHD.out])
  obtain ⟨m, HM⟩ : ∃ m, Hid (fn = m + 1) := ⟨fn - 1, Lib.hid (by omega)⟩
  have HML : Hid (tl.length = m) := Lib.hid (by rw [← HTL.out, List.length_map]; have := HFN.out; rw [HF.out, List.length_cons] at this; have := HM.out; omega)
  obtain rfl := HM.out
  clear hb5
  have hb5 : ((((m : Int) + 1)) == 0) = false := by rw [beq_eq_false_iff_ne]; omega
  have hfb := HS.out.fb pf (by rw [HF.out]; simp)
  obtain ⟨bb, HB1⟩ : ∃ bb, Hid (pf.1 = bb) := ⟨_, Lib.hid rfl⟩
  obtain ⟨vv, HV1⟩ : ∃ vv, Hid (pf.2 = vv) := ⟨_, Lib.hid rfl⟩
  rw [HB1.out, HV1.out] at hfb
  obtain ⟨hb2, hv0, hv1⟩ := hfb
  have HHD2 : Hid (2 * vv + (bb : Int) = hd) := Lib.hid (by rw [← HB1.out, ← HV1.out]; exact HHD.out)
  have htm : Int.tmod hd 2 = (bb : Int) := by rw [Int.tmod_eq_emod_of_nonneg (by rw [← HHD2.out]; omega), ← HHD2.out]; omega
  have htd : Int.tdiv hd 2 = vv := by rw [Int.tdiv_eq_ediv_of_nonneg (by rw [← HHD2.out]; omega), ← HHD2.out]; omega
  obtain ⟨u, HUU⟩ : ∃ u : Nat, Hid (gn % 2 = u) := ⟨_, Lib.hid rfl⟩
  have hgm : Int.tmod (gn : Int) 2 = (u : Int) := by rw [← HUU.out]; rfl
  have HPF : Hid ((s.pass 1).fL = tl) := Lib.hid (by simp [BNet.pass, BNet.fL, HF.out, HTL.out])
  have HPB : Hid ((s.pass 1).bL = s.bL ++ [(bb : Int)]) := Lib.hid (by simp [BNet.pass, BNet.bL, BNet.fbit, HF.out, HB1.out])
  have HPG : Hid ((s.pass 1).got = if bb = u then s.got ++ [vv] else s.got) := Lib.hid (by simp [BNet.pass, BNet.fbit, BNet.fval, HF.out, HB1.out, HV1.out, HGN.out, HUU.out])
  have hwv : wrap64 vv = vv := IntWalk.wrap64_in _ (by omega)
  clear n5 n4 h5 h4
  by_cases hq1 : bb = u
  · have hbq : ((bb : Int) == (u : Int)) = true := by rw [hq1]; simp
    have HP : Hid ((((lf s).set 2 (.l (s.got ++ [vv]))).set 4 (.l (s.bL ++ [(bb : Int)]))).set 3 (.l tl) = lf (s.pass 1)) := Lib.hid (by
      show _ = [_, _, Fd.l (s.pass 1).got, Fd.l (s.pass 1).fL, Fd.l (s.pass 1).bL]
      rw [HPF.out, HPB.out, HPG.out, if_pos hq1]; rfl)
    clear hq1
    go_enter Tryd.func18, Tryd.ntmps18
    go_wp2_with fail
    refine (ref6In_any _ _ _ _).mono ?_
    rintro e w2 ⟨rfl, rfl⟩
    rw [HIN.out]
    have HB := Lib.hid (Bx.start w [.slice va vn vc, .int .i64 (sn : Int), .slice ga gn gc, .slice fa (m + 1) fc, .slice ba bn bc] [.slice none 0 0, .int .i64 0, .slice none 0 0, .slice none 0 0, .slice none 0 0] (lf s) HU.out 44 44)
    generalize ((w.alloc _).alloc _) = w2 at *
    have HT0 : Hid (Rd (In S w w.heap.size (w.heap.size + 1)) w2 (.slice fa (m + 1) fc) (hd :: tl)) := Lib.hid (by rw [← HFL.out]; exact HB.out.at 3 rfl rfl)
    obtain ⟨bF, oF, cF, ev, -, hcap, hcH⟩ := HT0.out.formC (by simp)
    rw [show (hd :: tl).length = m + 1 by rw [List.length_cons, HML.out]] at ev hcap
    simp only [Value.slice.injEq] at ev
    obtain ⟨rfl, -, rfl⟩ := ev
    have dH := hcH 0 (by simp)
    rw [show (hd :: tl).getD 0 0 = hd from rfl, Nat.add_zero] at dH
    clear hcH
    have q0 : w2.cell? ⟨w.heap.size, 0, none⟩ = some (.slice va vn vc) := HB.out.ref.bB.cell 0
    have q1 : w2.cell? ⟨w.heap.size, 1, none⟩ = some (.int .i64 sn) := HB.out.ref.bB.cell 1
    have q2 : w2.cell? ⟨w.heap.size, 2, none⟩ = some (.slice ga gn gc) := HB.out.ref.bB.cell 2
    have q3 : w2.cell? ⟨w.heap.size, 3, none⟩ = some (.slice (some ⟨bF, oF, none⟩) (m + 1) fc) := HB.out.ref.bB.cell 3
    have q4 : w2.cell? ⟨w.heap.size, 4, none⟩ = some (.slice ba bn bc) := HB.out.ref.bB.cell 4
    go_wp2_with fail
    refine (ref6In_any _ _ _ _).mono ?_
    rintro e w3 ⟨rfl, rfl⟩
    rw [HIN2.out]
    go_wp2_with fail
    have HRG : Hid (Rd (In S w w.heap.size (w.heap.size + 1)) w2 (.slice ga gn gc) s.got) := Lib.hid (HB.out.at 2 rfl rfl)
    refine (more_ref (In S w w.heap.size (w.heap.size + 1)) _ s.got vv w2 HRG.out (by rw [HGN.out]; omega)).mono ?_
    rintro e w5 ⟨v5, rfl, hr5, hc5⟩
    have HL5 : Hid ((s.got ++ [vv]).length = gn + 1) := Lib.hid (by rw [List.length_append, HGN.out]; rfl)
    obtain ⟨a5, c5, e5⟩ := hr5.val
    rw [HL5.out] at e5
    subst e5
    have HX5 := Lib.hid (HB.out.told (f := .l _) hr5)
    have HN5 := Lib.hid (HB.out.no hc5)
    have HB5 := Lib.hid (HN5.out.set 2 _ _ HX5.out)
    clear q0 q1 q2 q3 q4 hr5 hc5
    have q0 : w5.cell? ⟨w.heap.size, 0, none⟩ = some (.slice va vn vc) := HN5.out.ref.bB.cell 0
    have q1 : w5.cell? ⟨w.heap.size, 1, none⟩ = some (.int .i64 sn) := HN5.out.ref.bB.cell 1
    have q2 : w5.cell? ⟨w.heap.size, 2, none⟩ = some (.slice ga gn gc) := HN5.out.ref.bB.cell 2
    have q3 : w5.cell? ⟨w.heap.size, 3, none⟩ = some (.slice (some ⟨bF, oF, none⟩) (m + 1) fc) := HN5.out.ref.bB.cell 3
    have q4 : w5.cell? ⟨w.heap.size, 4, none⟩ = some (.slice ba bn bc) := HN5.out.ref.bB.cell 4
    have z2 := HN5.out.ref.bB.frozen 2
    have g4 : (w5.setCell ⟨w.heap.size, 2, none⟩ (.slice a5 (gn + 1) c5)).cell? ⟨w.heap.size, 4, none⟩ = some (.slice ba bn bc) := HB5.out.ref.bB.cell 4
    go_wp2_with fail
    clear q0 q1 q2 q3 q4 z2 HN5 HX5 HRG g4
    generalize w5.setCell _ _ = w6 at *
    have HRB : Hid (Rd (In S w w.heap.size (w.heap.size + 1)) w6 (.slice ba bn bc) s.bL) := Lib.hid (HB5.out.at 4 rfl rfl)
    refine (more_ref (In S w w.heap.size (w.heap.size + 1)) _ s.bL (bb : Int) w6 HRB.out (by rw [s.bL_len, HBN.out]; omega)).mono ?_
    rintro e w7 ⟨v7, rfl, hr7, hc7⟩
    have HL7 : Hid ((s.bL ++ [(bb : Int)]).length = bn + 1) := Lib.hid (by rw [List.length_append, s.bL_len, HBN.out]; rfl)
    obtain ⟨a7, c7, e7⟩ := hr7.val
    rw [HL7.out] at e7
    subst e7
    have HX7 := Lib.hid (HB5.out.told (f := .l _) hr7)
    have HN7 := Lib.hid (HB5.out.no hc7)
    have HB7 := Lib.hid (HN7.out.set 4 _ _ HX7.out)
    clear hr7 hc7
    have q0 : w7.cell? ⟨w.heap.size, 0, none⟩ = some (.slice va vn vc) := HN7.out.ref.bB.cell 0
    have q1 : w7.cell? ⟨w.heap.size, 1, none⟩ = some (.int .i64 sn) := HN7.out.ref.bB.cell 1
    have q3 : w7.cell? ⟨w.heap.size, 3, none⟩ = some (.slice (some ⟨bF, oF, none⟩) (m + 1) fc) := HN7.out.ref.bB.cell 3
    have q4 : w7.cell? ⟨w.heap.size, 4, none⟩ = some (.slice ba bn bc) := HN7.out.ref.bB.cell 4
    have z4 := HN7.out.ref.bB.frozen 4
    have g3 : (w7.setCell ⟨w.heap.size, 4, none⟩ (.slice a7 (bn + 1) c7)).cell? ⟨w.heap.size, 3, none⟩ = some (.slice (some ⟨bF, oF, none⟩) (m + 1) fc) := HB7.out.ref.bB.cell 3
    have z3 : (w7.setCell ⟨w.heap.size, 4, none⟩ (.slice a7 (bn + 1) c7)).frozen? ⟨w.heap.size, 3, none⟩ = false := HB7.out.ref.bB.frozen 3
    obtain ⟨off, hoff, hoff2⟩ := tail_off2 bF oF fc m hcap
    have HT1 : Hid (Rd (In S w w.heap.size (w.heap.size + 1)) (w7.setCell ⟨w.heap.size, 4, none⟩ (.slice a7 (bn + 1) c7)) (.slice (some ⟨bF, oF, none⟩) (m + 1) fc) (hd :: tl)) := Lib.hid (by rw [← HFL.out]; exact HB7.out.at 3 rfl rfl)
    have HTA : Hid (RdF (In S w w.heap.size (w.heap.size + 1)) (w7.setCell ⟨w.heap.size, 4, none⟩ (.slice a7 (bn + 1) c7)) (.slice (some ⟨bF, off, none⟩) m (fc - 1)) (.l tl)) := Lib.hid (Rd.tail2 HT1.out HML.out hoff2)
    have hcap2 : (m : Int) + 1 ≤ fc := by omega
    clear hoff2
    have HB8 := Lib.hid (HB7.out.set 3 _ _ HTA.out)
    go_wp2_with (first | (refine wpList_plain rfl (fun K hK => wp_loadT aggLine _ rfl w.heap.size [.slice va vn vc, .int .i64 (sn : Int), .slice a5 (gn + 1) c5, .slice (some ⟨bF, off, none⟩) m (fc - 1), .slice a7 (bn + 1) c7] (by rfl) HB8.out.ref.bB rfl ?_); refine hK _ _ ?_; clear hK) | (refine wpList_plain rfl (fun K hK => wp_storeT aggLine _ _ rfl (w.heap.size + 1) [.slice va vn vc, .int .i64 (sn : Int), .slice a5 (gn + 1) c5, .slice (some ⟨bF, off, none⟩) m (fc - 1), .slice a7 (bn + 1) c7] _ (by rfl) (by rfl) rfl HB8.out.ref.bR rfl rfl ?_); intro wz hBz hcz; have HBZ := Lib.hid (HB8.out.setR hBz hcz); clear hBz hcz; refine hK _ _ ?_; clear hK))
    (try simp only [Exit.inBlock, Exit.then]); refine bodyPost_ret (results_cell2 aggLine rfl _ _ _ _ (by rfl) HBZ.out.ref.bR rfl) rfl ?_
    rw [HE.out, HDO.out]
    have hz := HBZ.out.ans
    rw [HP.out] at hz
    exact ⟨_, rfl, hz⟩
  · have hbq : ((bb : Int) == (u : Int)) = false := by rw [beq_eq_false_iff_ne]; omega
    have HP : Hid (((lf s).set 4 (.l (s.bL ++ [(bb : Int)]))).set 3 (.l tl) = lf (s.pass 1)) := Lib.hid (by
      show _ = [_, _, Fd.l (s.pass 1).got, Fd.l (s.pass 1).fL, Fd.l (s.pass 1).bL]
      rw [HPF.out, HPB.out, HPG.out, if_neg hq1]; rfl)
    clear hq1
    go_enter Tryd.func18, Tryd.ntmps18
    go_wp2_with fail
    refine (ref6In_any _ _ _ _).mono ?_
    rintro e w2 ⟨rfl, rfl⟩
    rw [HIN.out]
    have HB := Lib.hid (Bx.start w [.slice va vn vc, .int .i64 (sn : Int), .slice ga gn gc, .slice fa (m + 1) fc, .slice ba bn bc] [.slice none 0 0, .int .i64 0, .slice none 0 0, .slice none 0 0, .slice none 0 0] (lf s) HU.out 44 44)
    generalize ((w.alloc _).alloc _) = w2 at *
    have HT0 : Hid (Rd (In S w w.heap.size (w.heap.size + 1)) w2 (.slice fa (m + 1) fc) (hd :: tl)) := Lib.hid (by rw [← HFL.out]; exact HB.out.at 3 rfl rfl)
    obtain ⟨bF, oF, cF, ev, -, hcap, hcH⟩ := HT0.out.formC (by simp)
    rw [show (hd :: tl).length = m + 1 by rw [List.length_cons, HML.out]] at ev hcap
    simp only [Value.slice.injEq] at ev
    obtain ⟨rfl, -, rfl⟩ := ev
    have dH := hcH 0 (by simp)
    rw [show (hd :: tl).getD 0 0 = hd from rfl, Nat.add_zero] at dH
    clear hcH
    have q0 : w2.cell? ⟨w.heap.size, 0, none⟩ = some (.slice va vn vc) := HB.out.ref.bB.cell 0
    have q1 : w2.cell? ⟨w.heap.size, 1, none⟩ = some (.int .i64 sn) := HB.out.ref.bB.cell 1
    have q2 : w2.cell? ⟨w.heap.size, 2, none⟩ = some (.slice ga gn gc) := HB.out.ref.bB.cell 2
    have q3 : w2.cell? ⟨w.heap.size, 3, none⟩ = some (.slice (some ⟨bF, oF, none⟩) (m + 1) fc) := HB.out.ref.bB.cell 3
    have q4 : w2.cell? ⟨w.heap.size, 4, none⟩ = some (.slice ba bn bc) := HB.out.ref.bB.cell 4
    go_wp2_with fail
    refine (ref6In_any _ _ _ _).mono ?_
    rintro e w3 ⟨rfl, rfl⟩
    rw [HIN2.out]
    go_wp2_with fail
    have HRB : Hid (Rd (In S w w.heap.size (w.heap.size + 1)) w2 (.slice ba bn bc) s.bL) := Lib.hid (HB.out.at 4 rfl rfl)
    refine (more_ref (In S w w.heap.size (w.heap.size + 1)) _ s.bL (bb : Int) w2 HRB.out (by rw [s.bL_len, HBN.out]; omega)).mono ?_
    rintro e w7 ⟨v7, rfl, hr7, hc7⟩
    have HL7 : Hid ((s.bL ++ [(bb : Int)]).length = bn + 1) := Lib.hid (by rw [List.length_append, s.bL_len, HBN.out]; rfl)
    obtain ⟨a7, c7, e7⟩ := hr7.val
    rw [HL7.out] at e7
    subst e7
    have HX7 := Lib.hid (HB.out.told (f := .l _) hr7)
    have HN7 := Lib.hid (HB.out.no hc7)
    have HB7 := Lib.hid (HN7.out.set 4 _ _ HX7.out)
    clear q0 q1 q2 q3 q4 hr7 hc7
    have q0 : w7.cell? ⟨w.heap.size, 0, none⟩ = some (.slice va vn vc) := HN7.out.ref.bB.cell 0
    have q1 : w7.cell? ⟨w.heap.size, 1, none⟩ = some (.int .i64 sn) := HN7.out.ref.bB.cell 1
    have q3 : w7.cell? ⟨w.heap.size, 3, none⟩ = some (.slice (some ⟨bF, oF, none⟩) (m + 1) fc) := HN7.out.ref.bB.cell 3
    have q4 : w7.cell? ⟨w.heap.size, 4, none⟩ = some (.slice ba bn bc) := HN7.out.ref.bB.cell 4
    have z4 := HN7.out.ref.bB.frozen 4
    have g3 : (w7.setCell ⟨w.heap.size, 4, none⟩ (.slice a7 (bn + 1) c7)).cell? ⟨w.heap.size, 3, none⟩ = some (.slice (some ⟨bF, oF, none⟩) (m + 1) fc) := HB7.out.ref.bB.cell 3
    have z3 : (w7.setCell ⟨w.heap.size, 4, none⟩ (.slice a7 (bn + 1) c7)).frozen? ⟨w.heap.size, 3, none⟩ = false := HB7.out.ref.bB.frozen 3
    obtain ⟨off, hoff, hoff2⟩ := tail_off2 bF oF fc m hcap
    have HT1 : Hid (Rd (In S w w.heap.size (w.heap.size + 1)) (w7.setCell ⟨w.heap.size, 4, none⟩ (.slice a7 (bn + 1) c7)) (.slice (some ⟨bF, oF, none⟩) (m + 1) fc) (hd :: tl)) := Lib.hid (by rw [← HFL.out]; exact HB7.out.at 3 rfl rfl)
    have HTA : Hid (RdF (In S w w.heap.size (w.heap.size + 1)) (w7.setCell ⟨w.heap.size, 4, none⟩ (.slice a7 (bn + 1) c7)) (.slice (some ⟨bF, off, none⟩) m (fc - 1)) (.l tl)) := Lib.hid (Rd.tail2 HT1.out HML.out hoff2)
    have hcap2 : (m : Int) + 1 ≤ fc := by omega
    clear hoff2
    have HB8 := Lib.hid (HB7.out.set 3 _ _ HTA.out)
    go_wp2_with (first | (refine wpList_plain rfl (fun K hK => wp_loadT aggLine _ rfl w.heap.size [.slice va vn vc, .int .i64 (sn : Int), .slice ga gn gc, .slice (some ⟨bF, off, none⟩) m (fc - 1), .slice a7 (bn + 1) c7] (by rfl) HB8.out.ref.bB rfl ?_); refine hK _ _ ?_; clear hK) | (refine wpList_plain rfl (fun K hK => wp_storeT aggLine _ _ rfl (w.heap.size + 1) [.slice va vn vc, .int .i64 (sn : Int), .slice ga gn gc, .slice (some ⟨bF, off, none⟩) m (fc - 1), .slice a7 (bn + 1) c7] _ (by rfl) (by rfl) rfl HB8.out.ref.bR rfl rfl ?_); intro wz hBz hcz; have HBZ := Lib.hid (HB8.out.setR hBz hcz); clear hBz hcz; refine hK _ _ ?_; clear hK))
    (try simp only [Exit.inBlock, Exit.then]); refine bodyPost_ret (results_cell2 aggLine rfl _ _ _ _ (by rfl) HBZ.out.ref.bR rfl) rfl ?_
    rw [HE.out, HDO.out]
    have hz := HBZ.out.ans
    rw [HP.out] at hz
    exact ⟨_, rfl, hz⟩

end Go.Proofs.YtgpjjbfmckcjgaaDoor
