/-
  The document's answers about the lock for which one asks all others: a message sent, who enters.
  Conditions: the answer's lists are read, and tell the program's net.
-/
import Derived.Test.YtmkjfiopkmcjcaaDoorGrN
import Derived.Test.YtmkjfiopkmcjcaaDoorGrF
import Derived.Test.YtmkjfiopkmcjcaaDoorLoud
import Derived.Deep.DeepCutAuto
namespace Go.Proofs.YtmkjfiopkmcjcaaDoor
open Go Go.RowKit

theorem aggGrant : AggT Tryd.prog 31 7 := AggT.mk' (fun w => by kernel_rfl) Tryd.underlying31 rfl (by kernel_rfl)

theorem gf_opn {S : Nat → Prop} {w : World} {us : List Value} {s : GNet} (h : RdS S w us (gf s)) : ∃ (sa : Option Addr) (sc : Nat) (ka : Option Addr) (kc : Nat) (ta : Option Addr) (tc : Nat) (ga : Option Addr) (gc : Nat) (ha : Option Addr) (hc : Nat) (wa : Option Addr) (wc : Nat), us = [.int .i64 (s.n : Int), .slice sa s.n sc, .slice ka s.n kc, .slice ta s.n tc, .slice ga s.n gc, .slice ha s.n hc, .slice wa (s.n * s.n) wc] := by
  obtain ⟨v0, us, rfl, h0, h⟩ := h.cons_inv
  obtain ⟨v1, us, rfl, h1, h⟩ := h.cons_inv
  obtain ⟨v2, us, rfl, h2, h⟩ := h.cons_inv
  obtain ⟨v3, us, rfl, h3, h⟩ := h.cons_inv
  obtain ⟨v4, us, rfl, h4, h⟩ := h.cons_inv
  obtain ⟨v5, us, rfl, h5, h⟩ := h.cons_inv
  obtain ⟨v6, us, rfl, h6, h⟩ := h.cons_inv
  obtain rfl := h.nil_inv
  obtain ⟨sa, sc, rfl⟩ := Rd.val h1
  obtain ⟨ka, kc, rfl⟩ := Rd.val h2
  obtain ⟨ta, tc, rfl⟩ := Rd.val h3
  obtain ⟨ga, gc, rfl⟩ := Rd.val h4
  obtain ⟨ha, hc, rfl⟩ := Rd.val h5
  obtain ⟨wa, wc, rfl⟩ := Rd2.val h6
  obtain rfl := h0
  rw [line_len, line_len, line_len, natL_len, natL_len, flat_len]
  exact ⟨_, _, _, _, _, _, _, _, _, _, _, _, rfl⟩

def GAns (S : Nat → Prop) (w : World) (s' : GNet) (err : Int) (e : Ending) (w' : World) : Prop := ∃ v, e = .returned (.tuple #[v, .int .i64 err]) ∧ AnsF S w (gf s') v w'

set_option maxHeartbeats 8000000 in
set_option maxRecDepth 100000 in
theorem sendGrant_ref (S : Nat → Prop) (w : World) (us : List Value) (s : GNet) (h : RdS S w us (gf s)) (h4 : s.n ≤ 4) (p q : Nat) (hp : p < s.n) (hq : q < s.n) (x : Int) (hlen : (s.ways p q).length < 5000) :
    Calls Tryd.prog 21 #[.agg us.toArray, .int .i64 p, .int .i64 q, .int .i64 x] w (fun e w' => ∃ v, e = .returned v ∧ AnsF S w (gf (s.push p q x)) v w') := by
  obtain ⟨sa, sc, ka, kc, ta, tc, ga, gc, ha, hc, wa, wc, rfl⟩ := gf_opn h
  have HU := Lib.hid h
  obtain ⟨n, HN⟩ : ∃ n, Hid (s.n = n) := ⟨_, Lib.hid rfl⟩
  obtain ⟨nn, HNN⟩ : ∃ nn, Hid (n * n = nn) := ⟨_, Lib.hid rfl⟩
  have H5 : Hid (n ≤ 4) := Lib.hid (by rw [← HN.out]; exact h4)
  have HN25 : Hid (nn ≤ 16) := Lib.hid (by rw [← HNN.out]; exact Nat.mul_le_mul H5.out H5.out)
  rw [HN.out, HNN.out] at HU ⊢
  clear h h4
  have HPS := Lib.hid hp
  have HQS := Lib.hid hq
  have HPN : Hid (p < n) := Lib.hid (by rw [← HN.out]; exact hp)
  have HQN : Hid (q < n) := Lib.hid (by rw [← HN.out]; exact hq)
  have HLEN := Lib.hid hlen
  clear hp hq hlen
  have HCF := Lib.hid (gf_push s HQS.out (p := p) x)
  obtain ⟨mm, HMM⟩ : ∃ mm, Hid (p * n = mm) := ⟨_, Lib.hid rfl⟩
  obtain ⟨k, HK⟩ : ∃ k, Hid (mm + q = k) := ⟨_, Lib.hid rfl⟩
  have HKN : Hid (k < nn) := Lib.hid (by rw [← HK.out, ← HMM.out, ← HNN.out]; exact flat_lt HPN.out HQN.out)
  have HMM2 : Hid (mm ≤ 16) := Lib.hid (by have := HK.out; have := HKN.out; have := HN25.out; omega)
  have hw1 : IntKind.i64.wrap ((p : Int) * (n : Int)) = (mm : Int) := by rw [← Int.natCast_mul, HMM.out]; exact IntWalk.i64_in _ (by have := HMM2.out; omega)
  have hw2 : IntKind.i64.wrap ((mm : Int) + (q : Int)) = (k : Int) := by rw [← HK.out, Int.natCast_add]; exact IntWalk.i64_in _ (by have := HMM2.out; have := HKN.out; have := HK.out; have := HN25.out; omega)
  have hw3 : wrap64 ((p : Int) * (n : Int)) = (mm : Int) := by rw [← Int.natCast_mul, HMM.out]; exact IntWalk.wrap64_in _ (by have := HMM2.out; omega)
  have hw4 : wrap64 ((mm : Int) + (q : Int)) = (k : Int) := by rw [← HK.out, Int.natCast_add]; exact IntWalk.wrap64_in _ (by have := HMM2.out; have := HKN.out; have := HK.out; have := HN25.out; omega)
  have hkn : (k : Int) < nn := by have := HKN.out; omega
  have HIX : Hid (p * s.n + q = k) := Lib.hid (by rw [HN.out, HMM.out, HK.out])
  rw [HIX.out] at HCF
  go_enter Tryd.func21, Tryd.ntmps21
  go_upto_region 1 with fail
  have HB := Lib.hid (Bx.start w [.int .i64 (n : Int), .slice sa n sc, .slice ka n kc, .slice ta n tc, .slice ga n gc, .slice ha n hc, .slice wa nn wc] [.int .i64 0, .slice none 0 0, .slice none 0 0, .slice none 0 0, .slice none 0 0, .slice none 0 0, .slice none 0 0] (gf s) HU.out 31 31)
  generalize ((w.alloc _).alloc _) = w2 at *
  have q0 : w2.cell? ⟨w.heap.size, 0, none⟩ = some (.int .i64 (n : Int)) := HB.out.ref.bB.cell 0
  have q6 : w2.cell? ⟨w.heap.size, 6, none⟩ = some (.slice wa nn wc) := HB.out.ref.bB.cell 6
  have HWY : Hid (Rd2 (In S w w.heap.size (w.heap.size + 1)) w2 (.slice wa nn wc) (flat s.n s.ways)) := Lib.hid (HB.out.at 6 rfl rfl)
  have HFL : Hid ((flat s.n s.ways).length = nn) := Lib.hid (by rw [flat_len, HN.out, HNN.out])
  obtain ⟨bG, oG, cG, u, ev, dr, hru, hrl⟩ := HWY.out.at (Chg.refl NoF w2) (fun _ _ h => h) (j := k) (by rw [HFL.out]; exact HKN.out)
  rw [HFL.out] at ev
  simp only [Value.slice.injEq] at ev
  obtain ⟨rfl, -, rfl⟩ := ev
  rw [← HIX.out, flat_at _ HPS.out HQS.out] at hru hrl
  have HRU := Lib.hid hru
  obtain ⟨ua, uc, rfl⟩ := hru.val
  obtain ⟨gl, HGL⟩ : ∃ gl, Hid ((s.ways p q).length = gl) := ⟨_, Lib.hid rfl⟩
  rw [HGL.out] at dr HRU HLEN
  clear hru hrl
  refine wp_region_plan (Chg NoF w2) 22 [(0,true),(1,true),(2,true),(3,true),(4,true),(5,true),(6,true),(7,true),(8,true),(9,true),(10,true),(11,true),(12,true),(13,true),(14,true),(15,true),(16,true),(17,true),(18,true),(19,false),(20,false),(21,true),(22,false)] mixed (by kernel_rfl) (Chg.refl _ _).drew ?_
  simp only [planOps, List.map_cons, List.map_nil, List.getElem?_cons_zero, List.getElem?_cons_succ, Option.getD_some]
  generalize hops : List.toArray _ = ops
  iterate 19 (refine wpPlan_quiet (v := ?_) rfl (fun _ _ _ h => h) (by intro w1 hS; have s0 := hS.cell_some q6 (fun h => h); have s1 := hS.cell_some q0 (fun h => h); have s2 := hS.cell_some dr (fun h => h); clear hS; go_simp; with_reducible rfl) ?_; (simp only [Act.put, List.setIfInBounds_toArray, List.set_cons_zero, List.set_cons_succ]))
  refine wpPlan_loud rfl (fun K hK => ?_)
  go_simp
  have HD1 := Lib.hid (HB.out.no ((Chg.refl NoF w2).drew))
  refine (more_ref (In S w w.heap.size (w.heap.size + 1)) _ (s.ways p q) x _ (HRU.out.keep ((Chg.refl NoF w2).drew) (fun _ _ h => h)) (by rw [HGL.out]; have := HLEN.out; omega)).mono ?_
  rintro e x1 ⟨v1, rfl, hr1, hc1⟩
  have HL1 : Hid ((s.ways p q ++ [x]).length = gl + 1) := Lib.hid (by rw [List.length_append, HGL.out]; rfl)
  obtain ⟨a1, c1, e1⟩ := hr1.val
  rw [HL1.out] at e1
  subst e1
  have HC1 : Hid (Chg NoF w2 x1) := Lib.hid (((Chg.refl NoF w2).drew).trans hc1)
  have HX1 := Lib.hid (HD1.out.told (f := .l (s.ways p q ++ [x])) hr1)
  have HK1 := Lib.hid (HB.out.no HC1.out)
  refine hK _ _ (fun _ => HC1.out) ?_
  clear hK K hr1 hc1 HD1
  (try simp only [Act.put, List.setIfInBounds_toArray, List.set_cons_zero, List.set_cons_succ])
  refine wpPlan_loud rfl (fun K hK => ?_)
  go_simp
  have HD2 := Lib.hid (HB.out.no (HC1.out))
  refine (rows_ref (In S w w.heap.size (w.heap.size + 1)) _ _ (flat s.n s.ways) k (s.ways p q ++ [x]) x1 (HWY.out.keep HC1.out (fun _ _ h => h)) HX1.out (by rw [HL1.out]; have := HLEN.out; omega) (by rw [HFL.out]; exact HKN.out) (by rw [HFL.out]; have := HN25.out; omega)).mono ?_
  rintro e x2 ⟨v2, rfl, hr2, hc2⟩
  have HL2 : Hid (((flat s.n s.ways).set k (s.ways p q ++ [x])).length = nn) := Lib.hid (by rw [List.length_set, HFL.out])
  obtain ⟨a2, c2, e2⟩ := hr2.val
  rw [HL2.out] at e2
  subst e2
  have HC2 : Hid (Chg NoF w2 x2) := Lib.hid ((HC1.out).trans hc2)
  have HX2 := Lib.hid (HD2.out.told (f := .r ((flat s.n s.ways).set k (s.ways p q ++ [x]))) hr2)
  have HK2 := Lib.hid (HB.out.no HC2.out)
  refine hK _ _ (fun _ => HC2.out) ?_
  clear hK K hr2 hc2 HD2
  (try simp only [Act.put, List.setIfInBounds_toArray, List.set_cons_zero, List.set_cons_succ])
  (refine wpPlan_quiet (v := ?_) rfl (fun _ _ _ h => h) (by intro w1 hS; clear hS; go_simp; with_reducible rfl) ?_; (simp only [Act.put, List.setIfInBounds_toArray, List.set_cons_zero, List.set_cons_succ]))
  refine wpPlan_loud rfl (fun K hK => ?_)
  have sx : x2.cell? ⟨w.heap.size, 6, none⟩ = some (.slice (some ⟨bG, oG, none⟩) nn wc) := HK2.out.ref.bB.cell 6
  have zx := HK2.out.ref.bB.frozen 6
  go_simp
  refine hK _ _ (fun h => absurd rfl h) ?_
  clear hK K
  clear hops
  refine wpPlan_nil ?_
  obtain ⟨t3, HS3⟩ : ∃ zz, Hid (s.push p q x = zz) := ⟨_, Lib.hid rfl⟩
  have HN3 : Hid (t3.n = n) := Lib.hid (by rw [← HS3.out]; exact HN.out)
  have HB3 : Hid (Bx S w (x2.setCell ⟨w.heap.size, 6, none⟩ (.slice a2 nn c2)) w.heap.size (w.heap.size + 1) [.int .i64 (n : Int), .slice sa n sc, .slice ka n kc, .slice ta n tc, .slice ga n gc, .slice ha n hc, .slice a2 nn c2] [.int .i64 0, .slice none 0 0, .slice none 0 0, .slice none 0 0, .slice none 0 0, .slice none 0 0, .slice none 0 0] (gf t3)) := Lib.hid (by
    have h1 := HK2.out.set 6 _ _ HX2.out
    rw [HCF.out] at h1
    rw [← HS3.out]
    exact h1)
  clear sx zx HX2 HC2 HK2 HB q0 q6 dr HWY HX1 HC1 HK1
  generalize x2.setCell _ _ = y2 at *
  go_wp2_with (first | (refine wpList_plain rfl (fun K hK => wp_loadT aggGrant _ rfl w.heap.size [.int .i64 (n : Int), .slice sa n sc, .slice ka n kc, .slice ta n tc, .slice ga n gc, .slice ha n hc, .slice a2 nn c2] (by rfl) HB3.out.ref.bB rfl ?_); refine hK _ _ ?_; clear hK) | (refine wpList_plain rfl (fun K hK => wp_storeT aggGrant _ _ rfl (w.heap.size + 1) [.int .i64 (n : Int), .slice sa n sc, .slice ka n kc, .slice ta n tc, .slice ga n gc, .slice ha n hc, .slice a2 nn c2] _ (by rfl) (by rfl) rfl HB3.out.ref.bR rfl rfl ?_); intro wz hBz hcz; have HBZ := Lib.hid (HB3.out.setR hBz hcz); clear hBz hcz; refine hK _ _ ?_; clear hK))
  (try simp only [Exit.inBlock, Exit.then]); refine bodyPost_ret (results_cell1 aggGrant rfl _ _ _ _ (by rfl) HBZ.out.ref.bR rfl) rfl ?_
  rw [HS3.out]
  exact ⟨_, rfl, HBZ.out.ans⟩

set_option maxHeartbeats 8000000 in
set_option maxRecDepth 100000 in
theorem enterGrant_ref (S : Nat → Prop) (w : World) (us : List Value) (s : GNet) (h : RdS S w us (gf s)) (h4 : s.n ≤ 4) (p : Nat) (hp : p < s.n) (hgr : s.gr p < 2 ^ s.n) :
    Calls Tryd.prog 22 #[.agg us.toArray, .int .i64 p] w (fun e w' => ∃ v, e = .returned v ∧ AnsF S w (gf (s.enter p)) v w') := by
  obtain ⟨sa, sc, ka, kc, ta, tc, ga, gc, ha, hc, wa, wc, rfl⟩ := gf_opn h
  have HU := Lib.hid h
  obtain ⟨n, HN⟩ : ∃ n, Hid (s.n = n) := ⟨_, Lib.hid rfl⟩
  obtain ⟨nn, HNN⟩ : ∃ nn, Hid (n * n = nn) := ⟨_, Lib.hid rfl⟩
  have H5 : Hid (n ≤ 4) := Lib.hid (by rw [← HN.out]; exact h4)
  have HN25 : Hid (nn ≤ 16) := Lib.hid (by rw [← HNN.out]; exact Nat.mul_le_mul H5.out H5.out)
  rw [HN.out, HNN.out] at HU ⊢
  clear h h4
  have HPS := Lib.hid hp
  have HPN : Hid (p < n) := Lib.hid (by rw [← HN.out]; exact hp)
  have hpn : (p : Int) < n := by have := HPN.out; omega
  obtain ⟨sv, HSV⟩ : ∃ x, Hid (s.st p = x) := ⟨_, Lib.hid rfl⟩
  obtain ⟨gv, HGV⟩ : ∃ x, Hid (s.gr p = x) := ⟨_, Lib.hid rfl⟩
  have HG16 : Hid (gv < 16) := Lib.hid (by rw [← HGV.out]; rw [HN.out] at hgr; exact sub16 H5.out hgr)
  clear hp hgr
  by_cases hs1 : sv = 1
  case neg =>
    have HS1 : Hid (¬ s.st p = 1) := Lib.hid (by rw [HSV.out]; exact hs1)
    have hsb : (sv == 1) = false := by rw [beq_eq_false_iff_ne]; exact hs1
    clear hs1
    go_enter Tryd.func22, Tryd.ntmps22
    go_upto_region 1 with fail
    have HB := Lib.hid (Bx.start w [.int .i64 (n : Int), .slice sa n sc, .slice ka n kc, .slice ta n tc, .slice ga n gc, .slice ha n hc, .slice wa nn wc] [.int .i64 0, .slice none 0 0, .slice none 0 0, .slice none 0 0, .slice none 0 0, .slice none 0 0, .slice none 0 0] (gf s) HU.out 31 31)
    generalize ((w.alloc _).alloc _) = w2 at *
    have q0 : w2.cell? ⟨w.heap.size, 0, none⟩ = some (.int .i64 (n : Int)) := HB.out.ref.bB.cell 0
    have q1 : w2.cell? ⟨w.heap.size, 1, none⟩ = some (.slice sa n sc) := HB.out.ref.bB.cell 1
    have q4 : w2.cell? ⟨w.heap.size, 4, none⟩ = some (.slice ga n gc) := HB.out.ref.bB.cell 4
    have HRS : Hid (Rd (In S w w.heap.size (w.heap.size + 1)) w2 (.slice sa n sc) (line s.n s.st)) := Lib.hid (HB.out.at (f := .l (line s.n s.st)) 1 rfl rfl)
    obtain ⟨bS, oS, cS, eS, -, hcS⟩ := HRS.out.form (by rw [line_len, HN.out]; have := HPN.out; omega)
    rw [line_len, HN.out] at eS
    simp only [Value.slice.injEq] at eS
    obtain ⟨rfl, -, rfl⟩ := eS
    have dS := hcS p (by rw [line_len]; exact HPS.out)
    rw [line_at _ HPS.out, HSV.out] at dS
    clear hcS
    have HRG : Hid (Rd (In S w w.heap.size (w.heap.size + 1)) w2 (.slice ga n gc) (natL s.n s.gr)) := Lib.hid (HB.out.at (f := .l (natL s.n s.gr)) 4 rfl rfl)
    obtain ⟨bG, oG, cG, eG, -, hcG⟩ := HRG.out.form (by rw [natL_len, HN.out]; have := HPN.out; omega)
    rw [natL_len, HN.out] at eG
    simp only [Value.slice.injEq] at eG
    obtain ⟨rfl, -, rfl⟩ := eG
    have dG := hcG p (by rw [natL_len]; exact HPS.out)
    rw [natL_at _ HPS.out, HGV.out] at dG
    clear hcG
    refine wp_region_plan (Chg NoF w2) 21 [(0,true),(1,true),(2,true),(3,true),(4,true),(5,true),(6,true),(7,true),(8,true),(9,true),(10,true),(11,true),(12,true),(13,true),(16,true),(14,false),(15,true),(17,false),(18,true),(19,true),(20,true)] mixed (by kernel_rfl) (Chg.refl _ _).drew ?_
    simp only [planOps, List.map_cons, List.map_nil, List.getElem?_cons_zero, List.getElem?_cons_succ, Option.getD_some]
    generalize hops : List.toArray _ = ops
    iterate 7 (refine wpPlan_quiet (v := ?_) rfl (fun _ _ _ h => h) (by intro w1 hS; have s0 := hS.cell_some q1 (fun h => h); have s1 := hS.cell_some dS (fun h => h); clear hS; go_simp; with_reducible rfl) ?_; (simp only [Act.put, List.setIfInBounds_toArray, List.set_cons_zero, List.set_cons_succ]))
    iterate 8 (refine wpPlan_skip (by rw [← hops]; rfl) (fun _ _ _ h => h) ?_; (simp only [Act.put, List.setIfInBounds_toArray, List.set_cons_zero, List.set_cons_succ]))
    refine wpPlan_loudN (by rw [← hops]; rfl) (Chg.refl _ _).drew ?_
    (try simp only [Act.put, List.setIfInBounds_toArray, List.set_cons_zero, List.set_cons_succ])
    iterate 1 (refine wpPlan_skip (by rw [← hops]; rfl) (fun _ _ _ h => h) ?_; (simp only [Act.put, List.setIfInBounds_toArray, List.set_cons_zero, List.set_cons_succ]))
    refine wpPlan_loudN (by rw [← hops]; rfl) (Chg.refl _ _).drew ?_
    (try simp only [Act.put, List.setIfInBounds_toArray, List.set_cons_zero, List.set_cons_succ])
    iterate 2 (refine wpPlan_skip (by rw [← hops]; rfl) (fun _ _ _ h => h) ?_; (simp only [Act.put, List.setIfInBounds_toArray, List.set_cons_zero, List.set_cons_succ]))
    (refine wpPlan_quiet (v := ?_) rfl (fun _ _ _ h => h) (by intro w1 hS; clear hS; go_simp; with_reducible rfl) ?_; (simp only [Act.put, List.setIfInBounds_toArray, List.set_cons_zero, List.set_cons_succ]))
    clear hops
    refine wpPlan_nil ?_
    have HBD := Lib.hid (HB.out.no ((Chg.refl NoF w2).drew))
    clear q0 q1 q4 dS dG HB
    generalize w2.drew = w3 at *
    go_wp2_with (first | (refine wpList_plain rfl (fun K hK => wp_loadT aggGrant _ rfl w.heap.size [.int .i64 (n : Int), .slice (some ⟨bS, oS, none⟩) n sc, .slice ka n kc, .slice ta n tc, .slice (some ⟨bG, oG, none⟩) n gc, .slice ha n hc, .slice wa nn wc] (by rfl) HBD.out.ref.bB rfl ?_); refine hK _ _ ?_; clear hK) | (refine wpList_plain rfl (fun K hK => wp_storeT aggGrant _ _ rfl (w.heap.size + 1) [.int .i64 (n : Int), .slice (some ⟨bS, oS, none⟩) n sc, .slice ka n kc, .slice ta n tc, .slice (some ⟨bG, oG, none⟩) n gc, .slice ha n hc, .slice wa nn wc] _ (by rfl) (by rfl) rfl HBD.out.ref.bR rfl rfl ?_); intro wz hBz hcz; have HBZ := Lib.hid (HBD.out.setR hBz hcz); clear hBz hcz; refine hK _ _ ?_; clear hK))
    (try simp only [Exit.inBlock, Exit.then]); refine bodyPost_ret (results_cell1 aggGrant rfl _ _ _ _ (by rfl) HBZ.out.ref.bR rfl) rfl ?_
    rw [show s.enter p = s by unfold GNet.enter; rw [if_neg (fun h => HS1.out h.1)]]
    exact ⟨_, rfl, HBZ.out.ans⟩
  case pos =>
  have HS1 : Hid (s.st p = 1) := Lib.hid (by rw [HSV.out]; exact hs1)
  have hsb : (sv == 1) = true := by rw [beq_iff_eq]; exact hs1
  clear hs1
  have HPA := Lib.hid (fun wq => pow2_any n wq (by have := H5.out; omega))
  have HPB := Lib.hid (fun wq => pow2_any p wq (by have := HPN.out; have := H5.out; omega))
  have HOT := Lib.hid (others_int H5.out HPN.out)
  obtain ⟨pn, HPNE⟩ : ∃ x : Nat, Hid (2 ^ n = x) := ⟨_, Lib.hid rfl⟩
  obtain ⟨pp, HPPE⟩ : ∃ x : Nat, Hid (2 ^ p = x) := ⟨_, Lib.hid rfl⟩
  have hpn16 : pn ≤ 16 := by rw [← HPNE.out]; exact (show 2 ^ n ≤ 2 ^ 4 from Nat.pow_le_pow_right (by omega) H5.out)
  have hpp16 : pp ≤ 16 := by rw [← HPPE.out]; exact (show 2 ^ p ≤ 2 ^ 4 from Nat.pow_le_pow_right (by omega) (by have := HPN.out; have := H5.out; omega))
  rw [HPNE.out] at HPA HOT
  rw [HPPE.out] at HPB HOT
  obtain ⟨ot, HOTE⟩ : ∃ x : Nat, Hid (othersN n p = x) := ⟨_, Lib.hid rfl⟩
  rw [HOTE.out] at HOT
  have hw1 : IntKind.i64.wrap ((pn : Int) - 1) = (pn : Int) - 1 := IntWalk.i64_in _ (by omega)
  have hw2 : IntKind.i64.wrap ((pn : Int) - 1 - (pp : Int)) = (ot : Int) := by rw [← HOT.out]; exact IntWalk.i64_in _ (by omega)
  clear hpn16 hpp16
  by_cases hgo : gv = ot
  case neg =>
    have HGO : Hid (¬ s.gr p = othersN s.n p) := Lib.hid (by rw [HGV.out, HN.out, HOTE.out]; exact hgo)
    have hgb : ((gv : Int) == (ot : Int)) = false := by rw [beq_eq_false_iff_ne]; omega
    clear hgo
    go_enter Tryd.func22, Tryd.ntmps22
    go_upto_region 1 with fail
    have HB := Lib.hid (Bx.start w [.int .i64 (n : Int), .slice sa n sc, .slice ka n kc, .slice ta n tc, .slice ga n gc, .slice ha n hc, .slice wa nn wc] [.int .i64 0, .slice none 0 0, .slice none 0 0, .slice none 0 0, .slice none 0 0, .slice none 0 0, .slice none 0 0] (gf s) HU.out 31 31)
    generalize ((w.alloc _).alloc _) = w2 at *
    have q0 : w2.cell? ⟨w.heap.size, 0, none⟩ = some (.int .i64 (n : Int)) := HB.out.ref.bB.cell 0
    have q1 : w2.cell? ⟨w.heap.size, 1, none⟩ = some (.slice sa n sc) := HB.out.ref.bB.cell 1
    have q4 : w2.cell? ⟨w.heap.size, 4, none⟩ = some (.slice ga n gc) := HB.out.ref.bB.cell 4
    have HRS : Hid (Rd (In S w w.heap.size (w.heap.size + 1)) w2 (.slice sa n sc) (line s.n s.st)) := Lib.hid (HB.out.at (f := .l (line s.n s.st)) 1 rfl rfl)
    obtain ⟨bS, oS, cS, eS, -, hcS⟩ := HRS.out.form (by rw [line_len, HN.out]; have := HPN.out; omega)
    rw [line_len, HN.out] at eS
    simp only [Value.slice.injEq] at eS
    obtain ⟨rfl, -, rfl⟩ := eS
    have dS := hcS p (by rw [line_len]; exact HPS.out)
    rw [line_at _ HPS.out, HSV.out] at dS
    clear hcS
    have HRG : Hid (Rd (In S w w.heap.size (w.heap.size + 1)) w2 (.slice ga n gc) (natL s.n s.gr)) := Lib.hid (HB.out.at (f := .l (natL s.n s.gr)) 4 rfl rfl)
    obtain ⟨bG, oG, cG, eG, -, hcG⟩ := HRG.out.form (by rw [natL_len, HN.out]; have := HPN.out; omega)
    rw [natL_len, HN.out] at eG
    simp only [Value.slice.injEq] at eG
    obtain ⟨rfl, -, rfl⟩ := eG
    have dG := hcG p (by rw [natL_len]; exact HPS.out)
    rw [natL_at _ HPS.out, HGV.out] at dG
    clear hcG
    refine wp_region_plan (Chg NoF w2) 21 [(0,true),(1,true),(2,true),(3,true),(4,true),(5,true),(6,true),(7,true),(8,true),(9,true),(10,true),(11,true),(12,true),(13,true),(16,true),(14,false),(15,true),(17,false),(18,true),(19,true),(20,true)] mixed (by kernel_rfl) (Chg.refl _ _).drew ?_
    simp only [planOps, List.map_cons, List.map_nil, List.getElem?_cons_zero, List.getElem?_cons_succ, Option.getD_some]
    generalize hops : List.toArray _ = ops
    iterate 7 (refine wpPlan_quiet (v := ?_) rfl (fun _ _ _ h => h) (by intro w1 hS; have s0 := hS.cell_some q1 (fun h => h); have s1 := hS.cell_some dS (fun h => h); clear hS; go_simp; with_reducible rfl) ?_; (simp only [Act.put, List.setIfInBounds_toArray, List.set_cons_zero, List.set_cons_succ]))
    iterate 8 (refine wpPlan_quietG (v := ?_) (by rw [← hops]; rfl) (fun _ _ _ h => h) (by intro w1 hS; have s0 := hS.cell_some q0 (fun h => h); have s1 := hS.cell_some q4 (fun h => h); have s2 := hS.cell_some dG (fun h => h); clear hS; go_simp; with_reducible rfl) ?_; (simp only [Act.put, List.setIfInBounds_toArray, List.set_cons_zero, List.set_cons_succ]))
    refine wpPlan_loudG (by rw [← hops]; rfl) (fun K hK => ?_)
    go_simp
    refine (HPA.out w2.drew).mono ?_
    rintro e wq ⟨rfl, rfl⟩
    refine hK _ _ (fun _ => (Chg.refl NoF w2).drew) ?_
    clear hK K
    (try simp only [Act.put, List.setIfInBounds_toArray, List.set_cons_zero, List.set_cons_succ])
    (refine wpPlan_quietG (v := ?_) (by rw [← hops]; rfl) (fun _ _ _ h => h) (by intro w1 hS; clear hS; go_simp; with_reducible rfl) ?_; (simp only [Act.put, List.setIfInBounds_toArray, List.set_cons_zero, List.set_cons_succ]))
    refine wpPlan_loudG (by rw [← hops]; rfl) (fun K hK => ?_)
    go_simp
    refine (HPB.out w2.drew).mono ?_
    rintro e wq ⟨rfl, rfl⟩
    refine hK _ _ (fun _ => (Chg.refl NoF w2).drew) ?_
    clear hK K
    (try simp only [Act.put, List.setIfInBounds_toArray, List.set_cons_zero, List.set_cons_succ])
    iterate 2 (refine wpPlan_quietG (v := ?_) (by rw [← hops]; rfl) (fun _ _ _ h => h) (by intro w1 hS; clear hS; go_simp; with_reducible rfl) ?_; (simp only [Act.put, List.setIfInBounds_toArray, List.set_cons_zero, List.set_cons_succ]))
    (refine wpPlan_quiet (v := ?_) rfl (fun _ _ _ h => h) (by intro w1 hS; clear hS; go_simp; with_reducible rfl) ?_; (simp only [Act.put, List.setIfInBounds_toArray, List.set_cons_zero, List.set_cons_succ]))
    clear hops
    refine wpPlan_nil ?_
    have HBD := Lib.hid (HB.out.no ((Chg.refl NoF w2).drew))
    clear q0 q1 q4 dS dG HB hw1 hw2
    generalize w2.drew = w3 at *
    go_wp2_with (first | (refine wpList_plain rfl (fun K hK => wp_loadT aggGrant _ rfl w.heap.size [.int .i64 (n : Int), .slice (some ⟨bS, oS, none⟩) n sc, .slice ka n kc, .slice ta n tc, .slice (some ⟨bG, oG, none⟩) n gc, .slice ha n hc, .slice wa nn wc] (by rfl) HBD.out.ref.bB rfl ?_); refine hK _ _ ?_; clear hK) | (refine wpList_plain rfl (fun K hK => wp_storeT aggGrant _ _ rfl (w.heap.size + 1) [.int .i64 (n : Int), .slice (some ⟨bS, oS, none⟩) n sc, .slice ka n kc, .slice ta n tc, .slice (some ⟨bG, oG, none⟩) n gc, .slice ha n hc, .slice wa nn wc] _ (by rfl) (by rfl) rfl HBD.out.ref.bR rfl rfl ?_); intro wz hBz hcz; have HBZ := Lib.hid (HBD.out.setR hBz hcz); clear hBz hcz; refine hK _ _ ?_; clear hK))
    (try simp only [Exit.inBlock, Exit.then]); refine bodyPost_ret (results_cell1 aggGrant rfl _ _ _ _ (by rfl) HBZ.out.ref.bR rfl) rfl ?_
    rw [show s.enter p = s by unfold GNet.enter; rw [if_neg (fun h => HGO.out h.2)]]
    exact ⟨_, rfl, HBZ.out.ans⟩
  case pos =>
  have HGO : Hid (s.gr p = othersN s.n p) := Lib.hid (by rw [HGV.out, HN.out, HOTE.out]; exact hgo)
  have hgb : ((gv : Int) == (ot : Int)) = true := by rw [hgo]; simp
  clear hgo
  go_enter Tryd.func22, Tryd.ntmps22
  go_upto_region 1 with fail
  have HB := Lib.hid (Bx.start w [.int .i64 (n : Int), .slice sa n sc, .slice ka n kc, .slice ta n tc, .slice ga n gc, .slice ha n hc, .slice wa nn wc] [.int .i64 0, .slice none 0 0, .slice none 0 0, .slice none 0 0, .slice none 0 0, .slice none 0 0, .slice none 0 0] (gf s) HU.out 31 31)
  generalize ((w.alloc _).alloc _) = w2 at *
  have q0 : w2.cell? ⟨w.heap.size, 0, none⟩ = some (.int .i64 (n : Int)) := HB.out.ref.bB.cell 0
  have q1 : w2.cell? ⟨w.heap.size, 1, none⟩ = some (.slice sa n sc) := HB.out.ref.bB.cell 1
  have q4 : w2.cell? ⟨w.heap.size, 4, none⟩ = some (.slice ga n gc) := HB.out.ref.bB.cell 4
  have HRS : Hid (Rd (In S w w.heap.size (w.heap.size + 1)) w2 (.slice sa n sc) (line s.n s.st)) := Lib.hid (HB.out.at (f := .l (line s.n s.st)) 1 rfl rfl)
  obtain ⟨bS, oS, cS, eS, -, hcS⟩ := HRS.out.form (by rw [line_len, HN.out]; have := HPN.out; omega)
  rw [line_len, HN.out] at eS
  simp only [Value.slice.injEq] at eS
  obtain ⟨rfl, -, rfl⟩ := eS
  have dS := hcS p (by rw [line_len]; exact HPS.out)
  rw [line_at _ HPS.out, HSV.out] at dS
  clear hcS
  have HRG : Hid (Rd (In S w w.heap.size (w.heap.size + 1)) w2 (.slice ga n gc) (natL s.n s.gr)) := Lib.hid (HB.out.at (f := .l (natL s.n s.gr)) 4 rfl rfl)
  obtain ⟨bG, oG, cG, eG, -, hcG⟩ := HRG.out.form (by rw [natL_len, HN.out]; have := HPN.out; omega)
  rw [natL_len, HN.out] at eG
  simp only [Value.slice.injEq] at eG
  obtain ⟨rfl, -, rfl⟩ := eG
  have dG := hcG p (by rw [natL_len]; exact HPS.out)
  rw [natL_at _ HPS.out, HGV.out] at dG
  clear hcG
  refine wp_region_plan (Chg NoF w2) 21 [(0,true),(1,true),(2,true),(3,true),(4,true),(5,true),(6,true),(7,true),(8,true),(9,true),(10,true),(11,true),(12,true),(13,true),(16,true),(14,false),(15,true),(17,false),(18,true),(19,true),(20,true)] mixed (by kernel_rfl) (Chg.refl _ _).drew ?_
  simp only [planOps, List.map_cons, List.map_nil, List.getElem?_cons_zero, List.getElem?_cons_succ, Option.getD_some]
  generalize hops : List.toArray _ = ops
  iterate 7 (refine wpPlan_quiet (v := ?_) rfl (fun _ _ _ h => h) (by intro w1 hS; have s0 := hS.cell_some q1 (fun h => h); have s1 := hS.cell_some dS (fun h => h); clear hS; go_simp; with_reducible rfl) ?_; (simp only [Act.put, List.setIfInBounds_toArray, List.set_cons_zero, List.set_cons_succ]))
  iterate 8 (refine wpPlan_quietG (v := ?_) (by rw [← hops]; rfl) (fun _ _ _ h => h) (by intro w1 hS; have s0 := hS.cell_some q0 (fun h => h); have s1 := hS.cell_some q4 (fun h => h); have s2 := hS.cell_some dG (fun h => h); clear hS; go_simp; with_reducible rfl) ?_; (simp only [Act.put, List.setIfInBounds_toArray, List.set_cons_zero, List.set_cons_succ]))
  refine wpPlan_loudG (by rw [← hops]; rfl) (fun K hK => ?_)
  go_simp
  refine (HPA.out w2.drew).mono ?_
  rintro e wq ⟨rfl, rfl⟩
  refine hK _ _ (fun _ => (Chg.refl NoF w2).drew) ?_
  clear hK K
  (try simp only [Act.put, List.setIfInBounds_toArray, List.set_cons_zero, List.set_cons_succ])
  (refine wpPlan_quietG (v := ?_) (by rw [← hops]; rfl) (fun _ _ _ h => h) (by intro w1 hS; clear hS; go_simp; with_reducible rfl) ?_; (simp only [Act.put, List.setIfInBounds_toArray, List.set_cons_zero, List.set_cons_succ]))
  refine wpPlan_loudG (by rw [← hops]; rfl) (fun K hK => ?_)
  go_simp
  refine (HPB.out w2.drew).mono ?_
  rintro e wq ⟨rfl, rfl⟩
  refine hK _ _ (fun _ => (Chg.refl NoF w2).drew) ?_
  clear hK K
  (try simp only [Act.put, List.setIfInBounds_toArray, List.set_cons_zero, List.set_cons_succ])
  iterate 2 (refine wpPlan_quietG (v := ?_) (by rw [← hops]; rfl) (fun _ _ _ h => h) (by intro w1 hS; clear hS; go_simp; with_reducible rfl) ?_; (simp only [Act.put, List.setIfInBounds_toArray, List.set_cons_zero, List.set_cons_succ]))
  (refine wpPlan_quiet (v := ?_) rfl (fun _ _ _ h => h) (by intro w1 hS; clear hS; go_simp; with_reducible rfl) ?_; (simp only [Act.put, List.setIfInBounds_toArray, List.set_cons_zero, List.set_cons_succ]))
  clear hops
  refine wpPlan_nil ?_
  have HBD := Lib.hid (HB.out.no ((Chg.refl NoF w2).drew))
  clear q0 q1 q4 dS dG HB hw1 hw2
  generalize w2.drew = w3 at *
  have HRL1 : Hid (Rd (In S w w.heap.size (w.heap.size + 1)) w3 (.slice (some ⟨bS, oS, none⟩) n sc) (line s.n s.st)) := Lib.hid (HBD.out.at (f := .l (line s.n s.st)) 1 rfl rfl)
  have q1 : w3.cell? ⟨w.heap.size, 1, none⟩ = some (.slice (some ⟨bS, oS, none⟩) n sc) := HBD.out.ref.bB.cell 1
  go_wp2_with fail
  refine (set_ref (In S w w.heap.size (w.heap.size + 1)) _ (line s.n s.st) p (2) w3 HRL1.out (by rw [line_len]; exact HPS.out) (by rw [line_len, HN.out]; have := H5.out; omega)).mono ?_
  rintro e x1 ⟨v1, rfl, hr1, hc1⟩
  obtain ⟨a1, c1, e1⟩ := hr1.val
  rw [List.length_set, line_len, HN.out] at e1
  subst e1
  have HX1 := Lib.hid (HBD.out.told (f := .l _) hr1)
  have HK1 := Lib.hid (HBD.out.no hc1)
  obtain ⟨t2, HS2⟩ : ∃ zz, Hid ({ s with st := put1 s.st p (2) } = zz) := ⟨_, Lib.hid rfl⟩
  have HN2 : Hid (t2.n = n) := Lib.hid (by rw [← HS2.out]; exact HN.out)
  have HB2 : Hid (Bx S w (x1.setCell ⟨w.heap.size, 1, none⟩ (.slice a1 n c1)) w.heap.size (w.heap.size + 1) [.int .i64 (n : Int), .slice a1 n c1, .slice ka n kc, .slice ta n tc, .slice (some ⟨bG, oG, none⟩) n gc, .slice ha n hc, .slice wa nn wc] [.int .i64 0, .slice none 0 0, .slice none 0 0, .slice none 0 0, .slice none 0 0, .slice none 0 0, .slice none 0 0] (gf t2)) := Lib.hid (by
    have h1 := HK1.out.set 1 _ _ HX1.out
    rw [gf_st] at h1
    rw [← HS2.out]
    exact h1)
  clear hr1 hc1 HX1 HRL1 q1 
  have q1 : x1.cell? ⟨w.heap.size, 1, none⟩ = some (.slice (some ⟨bS, oS, none⟩) n sc) := HK1.out.ref.bB.cell 1
  have z1 := HK1.out.ref.bB.frozen 1
  go_wp2_with (first | (refine wpList_plain rfl (fun K hK => wp_loadT aggGrant _ rfl w.heap.size [.int .i64 (n : Int), .slice a1 n c1, .slice ka n kc, .slice ta n tc, .slice (some ⟨bG, oG, none⟩) n gc, .slice ha n hc, .slice wa nn wc] (by rfl) HB2.out.ref.bB rfl ?_); refine hK _ _ ?_; clear hK) | (refine wpList_plain rfl (fun K hK => wp_storeT aggGrant _ _ rfl (w.heap.size + 1) [.int .i64 (n : Int), .slice a1 n c1, .slice ka n kc, .slice ta n tc, .slice (some ⟨bG, oG, none⟩) n gc, .slice ha n hc, .slice wa nn wc] _ (by rfl) (by rfl) rfl HB2.out.ref.bR rfl rfl ?_); intro wz hBz hcz; have HBZ := Lib.hid (HB2.out.setR hBz hcz); clear hBz hcz; refine hK _ _ ?_; clear hK))
  (try simp only [Exit.inBlock, Exit.then]); refine bodyPost_ret (results_cell1 aggGrant rfl _ _ _ _ (by rfl) HBZ.out.ref.bR rfl) rfl ?_
  rw [show s.enter p = t2 by unfold GNet.enter; rw [if_pos ⟨HS1.out, HGO.out⟩, HS2.out]]
  exact ⟨_, rfl, HBZ.out.ans⟩

end Go.Proofs.YtmkjfiopkmcjcaaDoor
