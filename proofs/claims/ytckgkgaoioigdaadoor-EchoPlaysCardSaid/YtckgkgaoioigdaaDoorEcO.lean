/-
  The document's wave that comes back: a node that heard of all near it sends to its parent.
  Conditions: the wave's lists are read, and tell the program's wave.
-/
import Derived.Test.YtckgkgaoioigdaaDoorEcN
namespace Go.Proofs.YtckgkgaoioigdaaDoor
open Go Go.RowKit

set_option maxHeartbeats 8000000 in
set_option maxRecDepth 100000 in
theorem back_ref (S : Nat → Prop) (w : World) (us : List Value) (s : Wv) (h : RdS S w us (ef s)) {kb : Int} (hb : Bnd s kb) (hk : kb ≤ 20) (p : Nat) (hp : p < s.n) (hpar : p ≠ 0 → 0 ≤ s.parent p ∧ s.parent p < s.n) :
    Calls Tryd.prog 28 #[.agg us.toArray, .int .i64 p] w (fun e w' => ∃ v, e = .returned v ∧ AnsF S w (ef (s.back p)) v w') := by
  obtain ⟨na, nc, pa, pc, ha, hc, wa, wc, rfl⟩ := ef_opn h
  have HU := Lib.hid h
  have HBND := Lib.hid hb
  have HKB := Lib.hid hk
  obtain ⟨n, HN⟩ : ∃ n, Hid (s.n = n) := ⟨_, Lib.hid rfl⟩
  obtain ⟨nn, HNN⟩ : ∃ nn, Hid (n * n = nn) := ⟨_, Lib.hid rfl⟩
  have H5 : Hid (n ≤ 5) := Lib.hid (by rw [← HN.out]; exact hb.n5)
  have HN25 : Hid (nn ≤ 25) := Lib.hid (by rw [← HNN.out]; exact Nat.mul_le_mul H5.out H5.out)
  obtain ⟨sn, HSN⟩ : ∃ x, Hid (s.sent = x) := ⟨_, Lib.hid rfl⟩
  obtain ⟨dn, HDN⟩ : ∃ x, Hid (s.done = x) := ⟨_, Lib.hid rfl⟩
  rw [HN.out, HNN.out, HSN.out, HDN.out] at HU ⊢
  clear h hb hk
  have HPS := Lib.hid hp
  have HPN : Hid (p < n) := Lib.hid (by rw [← HN.out]; exact hp)
  have hpn : (p : Int) < n := by have := HPN.out; omega
  have HPAR := Lib.hid hpar
  clear hp hpar
  obtain ⟨hv, HHV⟩ : ∃ zz, Hid (s.heard p = zz) := ⟨_, Lib.hid rfl⟩
  obtain ⟨nv, HNV⟩ : ∃ zz, Hid (s.near p = zz) := ⟨_, Lib.hid rfl⟩
  by_cases hhn : hv = nv
  case neg =>
    have HFI : Hid (s.back p = s) := Lib.hid (by unfold Wv.back; rw [if_pos (by rw [HHV.out, HNV.out]; exact hhn)])
    have hb1 : ((hv : Int) != (nv : Int)) = true := by rw [bne_iff_ne]; omega
    clear hhn
    go_enter Tryd.func28, Tryd.ntmps28
    go_upto_region 1 with fail
    have HB := Lib.hid (Bx.start w [.slice na n nc, .slice pa n pc, .slice ha n hc, .slice wa nn wc, .int .i64 sn, .bool dn] [.slice none 0 0, .slice none 0 0, .slice none 0 0, .slice none 0 0, .int .i64 0, .bool false] (ef s) HU.out 33 33)
    generalize ((w.alloc _).alloc _) = w2 at *
    have q0 : w2.cell? ⟨w.heap.size, 0, none⟩ = some (.slice na n nc) := HB.out.ref.bB.cell 0
    have q2 : w2.cell? ⟨w.heap.size, 2, none⟩ = some (.slice ha n hc) := HB.out.ref.bB.cell 2
    have HRH : Hid (Rd (In S w w.heap.size (w.heap.size + 1)) w2 (.slice ha n hc) (lineN s.n s.heard)) := Lib.hid (HB.out.at (f := .l (lineN s.n s.heard)) 2 rfl rfl)
    obtain ⟨bH, oH, cH, eH, -, hcH⟩ := HRH.out.form (by rw [lineN_len, HN.out]; have := HPN.out; omega)
    rw [lineN_len, HN.out] at eH
    simp only [Value.slice.injEq] at eH
    obtain ⟨rfl, -, rfl⟩ := eH
    have dH := hcH p (by rw [lineN_len]; exact (by rw [HN.out]; exact HPN.out))
    rw [lineN_at _ HPS.out, HHV.out] at dH
    clear hcH
    have HRE : Hid (Rd (In S w w.heap.size (w.heap.size + 1)) w2 (.slice na n nc) (lineN s.n s.near)) := Lib.hid (HB.out.at (f := .l (lineN s.n s.near)) 0 rfl rfl)
    obtain ⟨bE, oE, cE, eE, -, hcE⟩ := HRE.out.form (by rw [lineN_len, HN.out]; have := HPN.out; omega)
    rw [lineN_len, HN.out] at eE
    simp only [Value.slice.injEq] at eE
    obtain ⟨rfl, -, rfl⟩ := eE
    have dE := hcE p (by rw [lineN_len]; exact (by rw [HN.out]; exact HPN.out))
    rw [lineN_at _ HPS.out, HNV.out] at dE
    clear hcE
    clear q0 q2
    have q0 : w2.cell? ⟨w.heap.size, 0, none⟩ = some (.slice (some ⟨bE, oE, none⟩) n nc) := HB.out.ref.bB.cell 0
    have q2 : w2.cell? ⟨w.heap.size, 2, none⟩ = some (.slice (some ⟨bH, oH, none⟩) n hc) := HB.out.ref.bB.cell 2
    go_wp2_with fail
    refine wp_region_plan (Chg NoF w2) 11 [(0,true),(1,true),(2,true),(3,true),(4,true),(5,true),(6,true),(7,true),(8,true),(9,true),(10,true)] mixed (by kernel_rfl) (Chg.refl _ _).drew ?_
    simp only [planOps, List.map_cons, List.map_nil, List.getElem?_cons_zero, List.getElem?_cons_succ, Option.getD_some]
    generalize hops : List.toArray _ = ops
    iterate 11 (refine wpPlan_quiet (v := ?_) rfl (fun _ _ _ h => h) (by intro w1 hS; have s0 := hS.cell_some q0 (fun h => h); have s1 := hS.cell_some q2 (fun h => h); have s2 := hS.cell_some dH (fun h => h); have s3 := hS.cell_some dE (fun h => h); clear hS; go_simp; with_reducible rfl) ?_; (simp only [Act.put, List.setIfInBounds_toArray, List.set_cons_zero, List.set_cons_succ]))
    clear hops
    refine wpPlan_nil ?_
    have HBD := Lib.hid (HB.out.no ((Chg.refl NoF w2).drew))
    clear q0 q2 dH dE HRH HRE HB
    generalize w2.drew = wd at *
    go_wp2_with (first | (refine wpList_plain rfl (fun K hK => wp_loadT aggWave _ rfl w.heap.size [.slice (some ⟨bE, oE, none⟩) n nc, .slice pa n pc, .slice (some ⟨bH, oH, none⟩) n hc, .slice wa nn wc, .int .i64 sn, .bool dn] (by rfl) HBD.out.ref.bB rfl ?_); refine hK _ _ ?_; clear hK) | (refine wpList_plain rfl (fun K hK => wp_storeT aggWave _ _ rfl (w.heap.size + 1) [.slice (some ⟨bE, oE, none⟩) n nc, .slice pa n pc, .slice (some ⟨bH, oH, none⟩) n hc, .slice wa nn wc, .int .i64 sn, .bool dn] _ (by rfl) (by rfl) rfl HBD.out.ref.bR rfl rfl ?_); intro wz hBz hcz; have HBZ := Lib.hid (HBD.out.setR hBz hcz); clear hBz hcz; refine hK _ _ ?_; clear hK))
    (try simp only [Exit.inBlock, Exit.then]); refine bodyPost_ret (results_cell1 aggWave rfl _ _ _ _ (by rfl) HBZ.out.ref.bR rfl) rfl ?_
    rw [HFI.out]
    exact ⟨_, rfl, HBZ.out.ans⟩
  case pos =>
  have hb1 : ((hv : Int) != (nv : Int)) = false := by rw [bne_eq_false_iff_eq]; omega
  have HEQ : Hid (¬ s.heard p ≠ s.near p) := Lib.hid (by rw [HHV.out, HNV.out]; exact fun h => h hhn)
  clear hhn
  by_cases hp0 : p = 0
  case pos =>
    have HFI : Hid (s.back p = { s with done := true }) := Lib.hid (by unfold Wv.back; rw [if_neg HEQ.out, if_pos hp0])
    have hb2 : ((p : Int) == 0) = true := by rw [beq_iff_eq]; omega
    clear hp0
    go_enter Tryd.func28, Tryd.ntmps28
    go_upto_region 1 with fail
    have HB := Lib.hid (Bx.start w [.slice na n nc, .slice pa n pc, .slice ha n hc, .slice wa nn wc, .int .i64 sn, .bool dn] [.slice none 0 0, .slice none 0 0, .slice none 0 0, .slice none 0 0, .int .i64 0, .bool false] (ef s) HU.out 33 33)
    generalize ((w.alloc _).alloc _) = w2 at *
    have q0 : w2.cell? ⟨w.heap.size, 0, none⟩ = some (.slice na n nc) := HB.out.ref.bB.cell 0
    have q2 : w2.cell? ⟨w.heap.size, 2, none⟩ = some (.slice ha n hc) := HB.out.ref.bB.cell 2
    have HRH : Hid (Rd (In S w w.heap.size (w.heap.size + 1)) w2 (.slice ha n hc) (lineN s.n s.heard)) := Lib.hid (HB.out.at (f := .l (lineN s.n s.heard)) 2 rfl rfl)
    obtain ⟨bH, oH, cH, eH, -, hcH⟩ := HRH.out.form (by rw [lineN_len, HN.out]; have := HPN.out; omega)
    rw [lineN_len, HN.out] at eH
    simp only [Value.slice.injEq] at eH
    obtain ⟨rfl, -, rfl⟩ := eH
    have dH := hcH p (by rw [lineN_len]; exact (by rw [HN.out]; exact HPN.out))
    rw [lineN_at _ HPS.out, HHV.out] at dH
    clear hcH
    have HRE : Hid (Rd (In S w w.heap.size (w.heap.size + 1)) w2 (.slice na n nc) (lineN s.n s.near)) := Lib.hid (HB.out.at (f := .l (lineN s.n s.near)) 0 rfl rfl)
    obtain ⟨bE, oE, cE, eE, -, hcE⟩ := HRE.out.form (by rw [lineN_len, HN.out]; have := HPN.out; omega)
    rw [lineN_len, HN.out] at eE
    simp only [Value.slice.injEq] at eE
    obtain ⟨rfl, -, rfl⟩ := eE
    have dE := hcE p (by rw [lineN_len]; exact (by rw [HN.out]; exact HPN.out))
    rw [lineN_at _ HPS.out, HNV.out] at dE
    clear hcE
    clear q0 q2
    have q0 : w2.cell? ⟨w.heap.size, 0, none⟩ = some (.slice (some ⟨bE, oE, none⟩) n nc) := HB.out.ref.bB.cell 0
    have q2 : w2.cell? ⟨w.heap.size, 2, none⟩ = some (.slice (some ⟨bH, oH, none⟩) n hc) := HB.out.ref.bB.cell 2
    go_wp2_with fail
    refine wp_region_plan (Chg NoF w2) 11 [(0,true),(1,true),(2,true),(3,true),(4,true),(5,true),(6,true),(7,true),(8,true),(9,true),(10,true)] mixed (by kernel_rfl) (Chg.refl _ _).drew ?_
    simp only [planOps, List.map_cons, List.map_nil, List.getElem?_cons_zero, List.getElem?_cons_succ, Option.getD_some]
    generalize hops : List.toArray _ = ops
    iterate 11 (refine wpPlan_quiet (v := ?_) rfl (fun _ _ _ h => h) (by intro w1 hS; have s0 := hS.cell_some q0 (fun h => h); have s1 := hS.cell_some q2 (fun h => h); have s2 := hS.cell_some dH (fun h => h); have s3 := hS.cell_some dE (fun h => h); clear hS; go_simp; with_reducible rfl) ?_; (simp only [Act.put, List.setIfInBounds_toArray, List.set_cons_zero, List.set_cons_succ]))
    clear hops
    refine wpPlan_nil ?_
    have HBD := Lib.hid (HB.out.no ((Chg.refl NoF w2).drew))
    clear q0 q2 dH dE HRH HRE HB
    generalize w2.drew = wd at *
    have q5 : wd.cell? ⟨w.heap.size, 5, none⟩ = some (.bool dn) := HBD.out.ref.bB.cell 5
    have z5 := HBD.out.ref.bB.frozen 5
    have HB5 := Lib.hid (HBD.out.set 5 (.bool true) (.b true) rfl)
    go_wp2_with (first | (refine wpList_plain rfl (fun K hK => wp_loadT aggWave _ rfl w.heap.size [.slice (some ⟨bE, oE, none⟩) n nc, .slice pa n pc, .slice (some ⟨bH, oH, none⟩) n hc, .slice wa nn wc, .int .i64 sn, .bool true] (by rfl) HB5.out.ref.bB rfl ?_); refine hK _ _ ?_; clear hK) | (refine wpList_plain rfl (fun K hK => wp_storeT aggWave _ _ rfl (w.heap.size + 1) [.slice (some ⟨bE, oE, none⟩) n nc, .slice pa n pc, .slice (some ⟨bH, oH, none⟩) n hc, .slice wa nn wc, .int .i64 sn, .bool true] _ (by rfl) (by rfl) rfl HB5.out.ref.bR rfl rfl ?_); intro wz hBz hcz; have HBZ := Lib.hid (HB5.out.setR hBz hcz); clear hBz hcz; refine hK _ _ ?_; clear hK))
    (try simp only [Exit.inBlock, Exit.then]); refine bodyPost_ret (results_cell1 aggWave rfl _ _ _ _ (by rfl) HBZ.out.ref.bR rfl) rfl ?_
    rw [HFI.out]
    exact ⟨_, rfl, HBZ.out.ans⟩
  case neg =>
  have hb2 : ((p : Int) == 0) = false := by rw [beq_eq_false_iff_ne]; omega
  obtain ⟨a, HPA, HAN⟩ : ∃ a : Nat, Hid (s.parent p = a) ∧ Hid (a < n) := by
    have h1 := HPAR.out hp0
    rw [HN.out] at h1
    exact ⟨(s.parent p).toNat, Lib.hid (by omega), Lib.hid (by omega)⟩
  have HFI : Hid (s.back p = s.spread p (2 ^ a)) := Lib.hid (by unfold Wv.back; rw [if_neg HEQ.out, if_neg hp0, HPA.out, Int.toNat_natCast])
  clear hp0
  go_enter Tryd.func28, Tryd.ntmps28
  go_upto_region 1 with fail
  have HB := Lib.hid (Bx.start w [.slice na n nc, .slice pa n pc, .slice ha n hc, .slice wa nn wc, .int .i64 sn, .bool dn] [.slice none 0 0, .slice none 0 0, .slice none 0 0, .slice none 0 0, .int .i64 0, .bool false] (ef s) HU.out 33 33)
  generalize ((w.alloc _).alloc _) = w2 at *
  have q0 : w2.cell? ⟨w.heap.size, 0, none⟩ = some (.slice na n nc) := HB.out.ref.bB.cell 0
  have q2 : w2.cell? ⟨w.heap.size, 2, none⟩ = some (.slice ha n hc) := HB.out.ref.bB.cell 2
  have HRH : Hid (Rd (In S w w.heap.size (w.heap.size + 1)) w2 (.slice ha n hc) (lineN s.n s.heard)) := Lib.hid (HB.out.at (f := .l (lineN s.n s.heard)) 2 rfl rfl)
  obtain ⟨bH, oH, cH, eH, -, hcH⟩ := HRH.out.form (by rw [lineN_len, HN.out]; have := HPN.out; omega)
  rw [lineN_len, HN.out] at eH
  simp only [Value.slice.injEq] at eH
  obtain ⟨rfl, -, rfl⟩ := eH
  have dH := hcH p (by rw [lineN_len]; exact (by rw [HN.out]; exact HPN.out))
  rw [lineN_at _ HPS.out, HHV.out] at dH
  clear hcH
  have HRE : Hid (Rd (In S w w.heap.size (w.heap.size + 1)) w2 (.slice na n nc) (lineN s.n s.near)) := Lib.hid (HB.out.at (f := .l (lineN s.n s.near)) 0 rfl rfl)
  obtain ⟨bE, oE, cE, eE, -, hcE⟩ := HRE.out.form (by rw [lineN_len, HN.out]; have := HPN.out; omega)
  rw [lineN_len, HN.out] at eE
  simp only [Value.slice.injEq] at eE
  obtain ⟨rfl, -, rfl⟩ := eE
  have dE := hcE p (by rw [lineN_len]; exact (by rw [HN.out]; exact HPN.out))
  rw [lineN_at _ HPS.out, HNV.out] at dE
  clear hcE
  clear q0 q2
  have q0 : w2.cell? ⟨w.heap.size, 0, none⟩ = some (.slice (some ⟨bE, oE, none⟩) n nc) := HB.out.ref.bB.cell 0
  have q2 : w2.cell? ⟨w.heap.size, 2, none⟩ = some (.slice (some ⟨bH, oH, none⟩) n hc) := HB.out.ref.bB.cell 2
  go_wp2_with fail
  refine wp_region_plan (Chg NoF w2) 11 [(0,true),(1,true),(2,true),(3,true),(4,true),(5,true),(6,true),(7,true),(8,true),(9,true),(10,true)] mixed (by kernel_rfl) (Chg.refl _ _).drew ?_
  simp only [planOps, List.map_cons, List.map_nil, List.getElem?_cons_zero, List.getElem?_cons_succ, Option.getD_some]
  generalize hops : List.toArray _ = ops
  iterate 11 (refine wpPlan_quiet (v := ?_) rfl (fun _ _ _ h => h) (by intro w1 hS; have s0 := hS.cell_some q0 (fun h => h); have s1 := hS.cell_some q2 (fun h => h); have s2 := hS.cell_some dH (fun h => h); have s3 := hS.cell_some dE (fun h => h); clear hS; go_simp; with_reducible rfl) ?_; (simp only [Act.put, List.setIfInBounds_toArray, List.set_cons_zero, List.set_cons_succ]))
  clear hops
  refine wpPlan_nil ?_
  have HBD := Lib.hid (HB.out.no ((Chg.refl NoF w2).drew))
  clear q0 q2 dH dE HRH HRE HB
  generalize w2.drew = wd at *
  have q1 : wd.cell? ⟨w.heap.size, 1, none⟩ = some (.slice pa n pc) := HBD.out.ref.bB.cell 1
  have HRP : Hid (Rd (In S w w.heap.size (w.heap.size + 1)) wd (.slice pa n pc) (line s.n s.parent)) := Lib.hid (HBD.out.at (f := .l (line s.n s.parent)) 1 rfl rfl)
  obtain ⟨bP, oP, cP, eP, -, hcP⟩ := HRP.out.form (by rw [line_len, HN.out]; have := HPN.out; omega)
  rw [line_len, HN.out] at eP
  simp only [Value.slice.injEq] at eP
  obtain ⟨rfl, -, rfl⟩ := eP
  have dP := hcP p (by rw [line_len]; exact (by rw [HN.out]; exact HPN.out))
  rw [line_at _ HPS.out, HPA.out] at dP
  clear hcP
  clear q1
  have q1 : wd.cell? ⟨w.heap.size, 1, none⟩ = some (.slice (some ⟨bP, oP, none⟩) n pc) := HBD.out.ref.bB.cell 1
  have HA5 : Hid (a ≤ 4) := Lib.hid (by have := HAN.out; have := H5.out; omega)
  go_wp2_with fail
  refine wp_region_plan (Chg NoF wd) 9 [(0,true),(1,true),(2,true),(3,true),(4,true),(5,true),(6,true),(7,false),(8,false),(9,false)] mixed (by kernel_rfl) (Chg.refl _ _).drew ?_
  simp only [planOps, List.map_cons, List.map_nil, List.getElem?_cons_zero, List.getElem?_cons_succ, Option.getD_some]
  generalize hops : List.toArray _ = ops
  refine wpPlan_quiet rfl (fun _ _ _ h => h) (fun w1 hS => quiet_loadT aggWave _ rfl w.heap.size [.slice (some ⟨bE, oE, none⟩) n nc, .slice (some ⟨bP, oP, none⟩) n pc, .slice (some ⟨bH, oH, none⟩) n hc, .slice wa nn wc, .int .i64 sn, .bool dn] (by rfl) (HBD.out.ref.bB.keep hS (fun h => h)) rfl) ?_
  (simp only [Act.put, List.setIfInBounds_toArray, List.set_cons_zero, List.set_cons_succ])
  iterate 6 (refine wpPlan_quiet (v := ?_) rfl (fun _ _ _ h => h) (by intro w1 hS; have s0 := hS.cell_some q1 (fun h => h); have s1 := hS.cell_some dP (fun h => h); clear hS; go_simp; with_reducible rfl) ?_; (simp only [Act.put, List.setIfInBounds_toArray, List.set_cons_zero, List.set_cons_succ]))
  refine wpPlan_loud rfl (fun K hK => ?_)
  go_simp
  refine (pow2_any a _ (by have := HA5.out; omega)).mono ?_
  rintro e wq ⟨rfl, rfl⟩
  refine hK _ _ (fun _ => (Chg.refl NoF wd).drew) ?_
  clear hK K
  (try simp only [Act.put, List.setIfInBounds_toArray, List.set_cons_zero, List.set_cons_succ])
  refine wpPlan_loud rfl (fun K hK => ?_)
  go_simp
  have HD8 := Lib.hid (HBD.out.no ((Chg.refl NoF wd).drew))
  refine (spread_ref (In S w w.heap.size (w.heap.size + 1)) _ _ s HD8.out.fld HBND.out HKB.out p (2 ^ a) HPS.out (Nat.pow_lt_pow_right (by omega) (by have := HA5.out; omega))).mono ?_
  rintro e w8 ⟨v8, rfl, us8, rfl, hr8, hc8⟩
  have HC8 : Hid (Chg NoF wd w8) := Lib.hid (((Chg.refl NoF wd).drew).trans hc8)
  have HR8 := Lib.hid (HD8.out.toldS hr8)
  have HB8 := Lib.hid (HBD.out.no HC8.out)
  refine hK _ _ (fun _ => HC8.out) ?_
  clear hK K hr8 hc8 HD8
  (try simp only [Act.put, List.setIfInBounds_toArray, List.set_cons_zero, List.set_cons_succ])
  refine wpPlan_loud rfl (fun K hK => ?_)
  refine wp_storeT aggWave _ _ rfl (w.heap.size + 1) us8 _ (by rfl) (by rfl) HR8.out.len HB8.out.ref.bR rfl HR8.out.one ?_
  intro w9 hB9 hc9
  have HB9 := Lib.hid hB9
  have HC9 : Hid (Chg NoF w w9) := Lib.hid (HB8.out.ref.chg.trans2 hc9 fun i _ hi => .inr (by have hi : i = w.heap.size + 1 := hi; omega))
  have HR9 : Hid (RdS (More S w) w9 us8 (ef (s.spread p (2 ^ a)))) := Lib.hid ((HR8.out.keep hc9 (fun b hb e => (HB8.out.notB b hb).2 e)).mono (fun b _ hb => hb.elim (fun h => .inl h.1) (fun h => .inr h.1)))
  refine hK _ _ (fun h => absurd rfl h) ?_
  clear hK K hB9 hc9
  (try simp only [Act.put, List.setIfInBounds_toArray, List.set_cons_zero, List.set_cons_succ])
  clear hops
  refine wpPlan_nil ?_
  go_wp2_with fail
  (try simp only [Exit.inBlock, Exit.then]); refine bodyPost_ret (results_cell1 aggWave rfl _ _ _ _ (by rfl) HB9.out HR8.out.len) rfl ?_
  rw [HFI.out]
  exact ⟨_, rfl, us8, rfl, HR9.out, HC9.out⟩

end Go.Proofs.YtckgkgaoioigdaaDoor
