/-
  The document's wave that comes back: what is on the way from one to another one comes.
  Conditions: the wave's lists are read, and tell the program's wave.
-/
import Derived.Test.YtckgkgaoioigdaaDoorEcO
import Derived.Test.YtckgkgaoioigdaaDoorEcG
namespace Go.Proofs.YtckgkgaoioigdaaDoor
open Go Go.RowKit

def WAns (S : Nat → Prop) (w : World) (s' : Wv) (err : Int) (e : Ending) (w' : World) : Prop := ∃ v, e = .returned (.tuple #[v, .int .i64 err]) ∧ AnsF S w (ef s') v w'

theorem Wv.in_iff (s : Wv) (p q : Int) : s.is p q = (inB p 0 ((s.n : Int) - 1) && inB q 0 ((s.n : Int) - 1)) := rfl
theorem wrap_less {x y : Int} (h : x - 1 = y) (h0 : 0 ≤ y) (h1 : y ≤ 2000) : IntKind.i64.wrap (x - 1) = y ∧ wrap64 (x - 1) = y := by
  rw [h]; exact wrap_both h0 (by omega)
theorem Bnd.reach {s : Wv} {k : Int} (h : Bnd s k) (p q : Nat) : Bnd (s.reach p q) k := ⟨h.n1, h.n5, h.ways, h.sent, h.near⟩

set_option maxHeartbeats 8000000 in
set_option maxRecDepth 100000 in
theorem stepw_ref (S : Nat → Prop) (w : World) (us : List Value) (s : Wv) (h : RdS S w us (ef s)) {kb : Int} (hb : Bnd s kb) (hk : kb ≤ 20) (hI : EInv s) (p q : Int) :
    Calls Tryd.prog 9 #[.agg us.toArray, .int .i64 p, .int .i64 q] w (WAns S w (s.step p q) (s.stepErr p q)) := by
  obtain ⟨na, nc, pa, pc, ha, hc, wa, wc, rfl⟩ := ef_opn h
  have HU := Lib.hid h
  have HBND := Lib.hid hb
  have HKB := Lib.hid hk
  obtain ⟨n, HN⟩ : ∃ n, Hid (s.n = n) := ⟨_, Lib.hid rfl⟩
  obtain ⟨nn, HNN⟩ : ∃ nn, Hid (n * n = nn) := ⟨_, Lib.hid rfl⟩
  have H5 : Hid (n ≤ 5) := Lib.hid (by rw [← HN.out]; exact hb.n5)
  have HN25 : Hid (nn ≤ 25) := Lib.hid (by rw [← HNN.out]; exact Nat.mul_le_mul H5.out H5.out)
  obtain ⟨sn, HSN⟩ : ∃ x, Hid (s.sent = x) := ⟨_, Lib.hid rfl⟩
  obtain ⟨dn, HDN⟩ : ∃ x, Hid (s.done = x) := ⟨_, Lib.hid rfl⟩
  rw [HN.out, HNN.out, HSN.out, HDN.out] at HU ⊢
  clear h hb hk
  have BAD : Hid (∀ x (w' : World), s.stepErr p q = x → x ≠ 0 → Bx S w w' w.heap.size (w.heap.size + 1) [.slice na n nc, .slice pa n pc, .slice ha n hc, .slice wa nn wc, .int .i64 sn, .bool dn] [.slice na n nc, .slice pa n pc, .slice ha n hc, .slice wa nn wc, .int .i64 sn, .bool dn] (ef s) → WAns S w (s.step p q) (s.stepErr p q) (.returned (.tuple #[.agg #[.slice na n nc, .slice pa n pc, .slice ha n hc, .slice wa nn wc, .int .i64 sn, .bool dn], .int .i64 x])) w') := Lib.hid fun x w' he hx hR => by
    have h1 : s.step p q = s := by unfold Wv.step; rw [if_neg (by rw [he]; exact hx)]
    rw [h1, he]
    exact ⟨_, rfl, hR.ans⟩
  have HI := Lib.hid hI
  have HWN : Hid (wrap64 ((n : Int) - 1) = (n : Int) - 1) := Lib.hid (IntWalk.wrap64_in _ (by have := H5.out; omega))
  clear hI
  obtain ⟨ip, HIp⟩ : ∃ z, Hid (inB p 0 ((n : Int) - 1) = z) := ⟨_, Lib.hid rfl⟩
  obtain ⟨iq, HIq⟩ : ∃ z, Hid (inB q 0 ((n : Int) - 1) = z) := ⟨_, Lib.hid rfl⟩
  have HIS : Hid (s.is p q = (ip && iq)) := Lib.hid (by rw [s.in_iff, HN.out, HIp.out, HIq.out])
  cases ip with
  | false =>
    have HE : Hid (s.stepErr p q = 1) := Lib.hid (by unfold Wv.stepErr; rw [if_pos (by rw [HIS.out]; rfl)])
    go_enter Tryd.func9, Tryd.ntmps9
    go_upto_region 1 with fail
    have HB := Lib.hid (Bx.start w [.slice na n nc, .slice pa n pc, .slice ha n hc, .slice wa nn wc, .int .i64 sn, .bool dn] [.slice none 0 0, .slice none 0 0, .slice none 0 0, .slice none 0 0, .int .i64 0, .bool false] (ef s) HU.out 33 33)
    generalize ((w.alloc _).alloc _) = w2 at *
    have q0 : w2.cell? ⟨w.heap.size, 0, none⟩ = some (.slice na n nc) := HB.out.ref.bB.cell 0
    have hwn := HWN.out
    go_wp2_with fail
    refine (ref6In_any _ _ _ _).mono ?_
    rintro e wq ⟨rfl, rfl⟩
    rw [HIp.out]
    clear hwn
    go_wp2_with (first | (refine wpList_plain rfl (fun K hK => wp_loadT aggWave _ rfl w.heap.size [.slice na n nc, .slice pa n pc, .slice ha n hc, .slice wa nn wc, .int .i64 sn, .bool dn] (by rfl) HB.out.ref.bB rfl ?_); refine hK _ _ ?_; clear hK) | (refine wpList_plain rfl (fun K hK => wp_storeT aggWave _ _ rfl (w.heap.size + 1) [.slice na n nc, .slice pa n pc, .slice ha n hc, .slice wa nn wc, .int .i64 sn, .bool dn] _ (by rfl) (by rfl) rfl HB.out.ref.bR rfl rfl ?_); intro wz hBz hcz; have HBZ := Lib.hid (HB.out.setR hBz hcz); clear hBz hcz; refine hK _ _ ?_; clear hK))
    (try simp only [Exit.inBlock, Exit.then]); refine bodyPost_ret (results_cell2 aggWave rfl _ _ _ _ (by rfl) HBZ.out.ref.bR rfl) rfl ?_
    exact BAD.out 1 _ HE.out (by omega) HBZ.out
  | true =>
  cases iq with
  | false =>
    have HE : Hid (s.stepErr p q = 1) := Lib.hid (by unfold Wv.stepErr; rw [if_pos (by rw [HIS.out]; rfl)])
    go_enter Tryd.func9, Tryd.ntmps9
    go_upto_region 1 with fail
    have HB := Lib.hid (Bx.start w [.slice na n nc, .slice pa n pc, .slice ha n hc, .slice wa nn wc, .int .i64 sn, .bool dn] [.slice none 0 0, .slice none 0 0, .slice none 0 0, .slice none 0 0, .int .i64 0, .bool false] (ef s) HU.out 33 33)
    generalize ((w.alloc _).alloc _) = w2 at *
    have q0 : w2.cell? ⟨w.heap.size, 0, none⟩ = some (.slice na n nc) := HB.out.ref.bB.cell 0
    have hwn := HWN.out
    go_wp2_with fail
    refine (ref6In_any _ _ _ _).mono ?_
    rintro e wq ⟨rfl, rfl⟩
    rw [HIp.out]
    clear hwn
    have hwn := HWN.out
    go_wp2_with fail
    refine (ref6In_any _ _ _ _).mono ?_
    rintro e wq ⟨rfl, rfl⟩
    rw [HIq.out]
    clear hwn
    go_wp2_with (first | (refine wpList_plain rfl (fun K hK => wp_loadT aggWave _ rfl w.heap.size [.slice na n nc, .slice pa n pc, .slice ha n hc, .slice wa nn wc, .int .i64 sn, .bool dn] (by rfl) HB.out.ref.bB rfl ?_); refine hK _ _ ?_; clear hK) | (refine wpList_plain rfl (fun K hK => wp_storeT aggWave _ _ rfl (w.heap.size + 1) [.slice na n nc, .slice pa n pc, .slice ha n hc, .slice wa nn wc, .int .i64 sn, .bool dn] _ (by rfl) (by rfl) rfl HB.out.ref.bR rfl rfl ?_); intro wz hBz hcz; have HBZ := Lib.hid (HB.out.setR hBz hcz); clear hBz hcz; refine hK _ _ ?_; clear hK))
    (try simp only [Exit.inBlock, Exit.then]); refine bodyPost_ret (results_cell2 aggWave rfl _ _ _ _ (by rfl) HBZ.out.ref.bR rfl) rfl ?_
    exact BAD.out 1 _ HE.out (by omega) HBZ.out
  | true =>
  have HOK : Hid (¬ s.is p q = false) := Lib.hid (by rw [HIS.out]; decide)
  obtain ⟨a, b, rfl, rfl, haa, hbb⟩ := (s.is_iff p q).1 (by rw [HIS.out]; rfl)
  have HPS := Lib.hid haa
  have HQS := Lib.hid hbb
  have HPN : Hid (a < n) := Lib.hid (by rw [← HN.out]; exact haa)
  have HQN : Hid (b < n) := Lib.hid (by rw [← HN.out]; exact hbb)
  have han : (a : Int) < n := by have := HPN.out; omega
  have hbn : (b : Int) < n := by have := HQN.out; omega
  clear haa hbb
  obtain ⟨wv, HWV⟩ : ∃ zz, Hid (s.ways a b = zz) := ⟨_, Lib.hid rfl⟩
  obtain ⟨mm, HMM⟩ : ∃ mm, Hid (a * n = mm) := ⟨_, Lib.hid rfl⟩
  obtain ⟨k, HK⟩ : ∃ k, Hid (mm + b = k) := ⟨_, Lib.hid rfl⟩
  have HKN : Hid (k < nn) := Lib.hid (by rw [← HK.out, ← HMM.out, ← HNN.out]; exact flat_lt HPN.out HQN.out)
  have HMM2 : Hid (mm ≤ 25) := Lib.hid (by have := HK.out; have := HKN.out; have := HN25.out; omega)
  have HW1 : Hid (IntKind.i64.wrap ((a : Int) * (n : Int)) = (mm : Int) ∧ wrap64 ((a : Int) * (n : Int)) = (mm : Int)) := Lib.hid (by rw [← Int.natCast_mul, HMM.out]; exact wrap_both (by omega) (by have := HMM2.out; omega))
  have HW2 : Hid (IntKind.i64.wrap ((mm : Int) + (b : Int)) = (k : Int) ∧ wrap64 ((mm : Int) + (b : Int)) = (k : Int)) := Lib.hid (by rw [← Int.natCast_add, HK.out]; exact wrap_both (by omega) (by have := HKN.out; have := HN25.out; omega))
  have hkn : (k : Int) < nn := by have := HKN.out; omega
  have HIX : Hid (a * s.n + b = k) := Lib.hid (by rw [HN.out, HMM.out, HK.out])
  by_cases hw0 : wv = 0
  case pos =>
    have HE : Hid (s.stepErr a b = 5) := Lib.hid (by unfold Wv.stepErr; rw [if_neg HOK.out, Int.toNat_natCast, Int.toNat_natCast, HWV.out, if_pos hw0])
    have hwb : (wv == 0) = true := by rw [beq_iff_eq]; exact hw0
    clear hw0
    go_enter Tryd.func9, Tryd.ntmps9
    go_upto_region 1 with fail
    have HB := Lib.hid (Bx.start w [.slice na n nc, .slice pa n pc, .slice ha n hc, .slice wa nn wc, .int .i64 sn, .bool dn] [.slice none 0 0, .slice none 0 0, .slice none 0 0, .slice none 0 0, .int .i64 0, .bool false] (ef s) HU.out 33 33)
    generalize ((w.alloc _).alloc _) = w2 at *
    have q0 : w2.cell? ⟨w.heap.size, 0, none⟩ = some (.slice na n nc) := HB.out.ref.bB.cell 0
    have hwn := HWN.out
    go_wp2_with fail
    refine (ref6In_any _ _ _ _).mono ?_
    rintro e wq ⟨rfl, rfl⟩
    rw [HIp.out]
    clear hwn
    have hwn := HWN.out
    go_wp2_with fail
    refine (ref6In_any _ _ _ _).mono ?_
    rintro e wq ⟨rfl, rfl⟩
    rw [HIq.out]
    clear hwn
    have HRW : Hid (Rd (In S w w.heap.size (w.heap.size + 1)) w2 (.slice wa nn wc) (flat s.n s.ways)) := Lib.hid (HB.out.at (f := .l (flat s.n s.ways)) 3 rfl rfl)
    obtain ⟨bW, oW, cW, eW, -, hcW⟩ := HRW.out.form (by rw [flat_len, HN.out, HNN.out]; have := HKN.out; omega)
    rw [flat_len, HN.out, HNN.out] at eW
    simp only [Value.slice.injEq] at eW
    obtain ⟨rfl, -, rfl⟩ := eW
    have dW := hcW k (by rw [flat_len]; exact (by rw [HN.out, HNN.out]; exact HKN.out))
    rw [show (flat s.n s.ways).getD k 0 = wv by rw [← HIX.out, flat_at _ HPS.out HQS.out, HWV.out]] at dW
    clear hcW
    have q3 : w2.cell? ⟨w.heap.size, 3, none⟩ = some (.slice (some ⟨bW, oW, none⟩) nn wc) := HB.out.ref.bB.cell 3
    have hw1 := HW1.out.1
    have hw2 := HW2.out.1
    have hw3 := HW1.out.2
    have hw4 := HW2.out.2
    go_wp2_with (first | (refine wpList_plain rfl (fun K hK => wp_loadT aggWave _ rfl w.heap.size [.slice na n nc, .slice pa n pc, .slice ha n hc, .slice (some ⟨bW, oW, none⟩) nn wc, .int .i64 sn, .bool dn] (by rfl) HB.out.ref.bB rfl ?_); refine hK _ _ ?_; clear hK) | (refine wpList_plain rfl (fun K hK => wp_storeT aggWave _ _ rfl (w.heap.size + 1) [.slice na n nc, .slice pa n pc, .slice ha n hc, .slice (some ⟨bW, oW, none⟩) nn wc, .int .i64 sn, .bool dn] _ (by rfl) (by rfl) rfl HB.out.ref.bR rfl rfl ?_); intro wz hBz hcz; have HBZ := Lib.hid (HB.out.setR hBz hcz); clear hBz hcz; refine hK _ _ ?_; clear hK))
    (try simp only [Exit.inBlock, Exit.then]); refine bodyPost_ret (results_cell2 aggWave rfl _ _ _ _ (by rfl) HBZ.out.ref.bR rfl) rfl ?_
    exact BAD.out 5 _ HE.out (by omega) HBZ.out
  case neg =>
  have HE : Hid (s.stepErr a b = 0) := Lib.hid (by unfold Wv.stepErr; rw [if_neg HOK.out, Int.toNat_natCast, Int.toNat_natCast, HWV.out, if_neg hw0])
  have hwb : (wv == 0) = false := by rw [beq_eq_false_iff_ne]; exact hw0
  have HW1W := Lib.hid (HI.out.way1 HPS.out HQS.out (by rw [HWV.out]; exact hw0))
  have HWV1 : Hid (s.ways a b = 1) := Lib.hid HW1W.out.2.2.1
  have HNR : Hid (s.nr b a = true) := Lib.hid (by have h1 := (snt_nr HW1W.out.1).1; unfold Wv.nr at *; rw [HI.out.net.sym b a HQS.out HPS.out]; exact h1)
  obtain ⟨wy, HWY⟩ : ∃ zz, Hid (wv - 1 = zz) := ⟨_, Lib.hid rfl⟩
  have HW5 := Lib.hid (wrap_less HWY.out (by have := HWV.out; have := HWV1.out; have := HWY.out; omega) (by have := HWV.out; have := HWV1.out; have := HWY.out; omega))
  have HSTP : Hid (s.step a b = s.step0 a b) := Lib.hid (by unfold Wv.step; rw [if_pos HE.out, Int.toNat_natCast, Int.toNat_natCast])
  obtain ⟨hv, HHV⟩ : ∃ zz, Hid (s.heard b = zz) := ⟨_, Lib.hid rfl⟩
  obtain ⟨nv, HNV⟩ : ∃ zz, Hid (s.near b = zz) := ⟨_, Lib.hid rfl⟩
  obtain ⟨pv, HPV⟩ : ∃ zz, Hid (s.parent b = zz) := ⟨_, Lib.hid rfl⟩
  have HPOW : Hid (2 ^ s.n ≤ 32) := Lib.hid (show 2 ^ s.n ≤ 2 ^ 5 from Nat.pow_le_pow_right (by omega) HI.out.net.n5)
  have HHB : Hid (hv < 32) := Lib.hid (by rw [← HHV.out]; exact Nat.lt_of_lt_of_le (HI.out.hdL b HQS.out) HPOW.out)
  have HNB : Hid (nv < 32) := Lib.hid (by rw [← HNV.out]; exact Nat.lt_of_lt_of_le (HI.out.net.lt b HQS.out) HPOW.out)
  have HTK : Hid (Bnd (s.take a b) 1) := Lib.hid (HI.out.bnd.take HWV1.out)
  have HA5 : Hid (a < 5) := Lib.hid (Nat.lt_of_lt_of_le HPN.out H5.out)
  have HPR := Lib.hid (HI.out.parR HQS.out)
  clear hw0
  go_enter Tryd.func9, Tryd.ntmps9
  go_upto_region 1 with fail
  have HB := Lib.hid (Bx.start w [.slice na n nc, .slice pa n pc, .slice ha n hc, .slice wa nn wc, .int .i64 sn, .bool dn] [.slice none 0 0, .slice none 0 0, .slice none 0 0, .slice none 0 0, .int .i64 0, .bool false] (ef s) HU.out 33 33)
  generalize ((w.alloc _).alloc _) = w2 at *
  have q0 : w2.cell? ⟨w.heap.size, 0, none⟩ = some (.slice na n nc) := HB.out.ref.bB.cell 0
  have hwn := HWN.out
  go_wp2_with fail
  refine (ref6In_any _ _ _ _).mono ?_
  rintro e wq ⟨rfl, rfl⟩
  rw [HIp.out]
  clear hwn
  have hwn := HWN.out
  go_wp2_with fail
  refine (ref6In_any _ _ _ _).mono ?_
  rintro e wq ⟨rfl, rfl⟩
  rw [HIq.out]
  clear hwn
  have HRW : Hid (Rd (In S w w.heap.size (w.heap.size + 1)) w2 (.slice wa nn wc) (flat s.n s.ways)) := Lib.hid (HB.out.at (f := .l (flat s.n s.ways)) 3 rfl rfl)
  obtain ⟨bW, oW, cW, eW, -, hcW⟩ := HRW.out.form (by rw [flat_len, HN.out, HNN.out]; have := HKN.out; omega)
  rw [flat_len, HN.out, HNN.out] at eW
  simp only [Value.slice.injEq] at eW
  obtain ⟨rfl, -, rfl⟩ := eW
  have dW := hcW k (by rw [flat_len]; exact (by rw [HN.out, HNN.out]; exact HKN.out))
  rw [show (flat s.n s.ways).getD k 0 = wv by rw [← HIX.out, flat_at _ HPS.out HQS.out, HWV.out]] at dW
  clear hcW
  have q3 : w2.cell? ⟨w.heap.size, 3, none⟩ = some (.slice (some ⟨bW, oW, none⟩) nn wc) := HB.out.ref.bB.cell 3
  have hw1 := HW1.out.1
  have hw2 := HW2.out.1
  have hw3 := HW1.out.2
  have hw4 := HW2.out.2
  go_upto_region 6 with fail
  clear hw1 hw2 hw3 hw4 hwb q0
  have HCF : Hid ((ef s).set 3 (.l ((flat s.n s.ways).set k (wy))) = ef { s with ways := put2 s.ways a b (wy) }) := Lib.hid (by rw [← HIX.out]; exact ef_way s HQS.out _)
  have hw1 := HW1.out.1
  have hw2 := HW2.out.1
  have hw3 := HW1.out.2
  have hw4 := HW2.out.2
  have hw5 := HW5.out.1
  have hw6 := HW5.out.2
  refine wp_region_plan (Chg NoF w2) 19 [(0,true),(1,true),(2,true),(3,true),(4,true),(5,true),(6,true),(7,true),(8,true),(9,true),(10,true),(11,true),(12,true),(13,true),(14,true),(15,true),(16,true),(17,false),(18,true),(19,false)] mixed (by kernel_rfl) (Chg.refl _ _).drew ?_
  simp only [planOps, List.map_cons, List.map_nil, List.getElem?_cons_zero, List.getElem?_cons_succ, Option.getD_some]
  generalize hops : List.toArray _ = ops
  iterate 17 (refine wpPlan_quiet (v := ?_) rfl (fun _ _ _ h => h) (by intro w1 hS; have s0 := hS.cell_some q3 (fun h => h); have s1 := hS.cell_some dW (fun h => h); clear hS; go_simp; with_reducible rfl) ?_; (simp only [Act.put, List.setIfInBounds_toArray, List.set_cons_zero, List.set_cons_succ]))
  clear hw1 hw2 hw3 hw4 hw5 hw6
  refine wpPlan_loud rfl (fun K hK => ?_)
  go_simp
  have HD1 := Lib.hid (HB.out.no ((Chg.refl NoF w2).drew))
  refine (set_ref (In S w w.heap.size (w.heap.size + 1)) _ (flat s.n s.ways) k (wy) _ (HRW.out.keep ((Chg.refl NoF w2).drew) (fun _ _ h => h)) (by rw [flat_len, HN.out, HNN.out]; exact HKN.out) (by rw [flat_len, HN.out, HNN.out]; have := HN25.out; omega)).mono ?_
  rintro e x1 ⟨v1, rfl, hr1, hc1⟩
  have HL1 : Hid (((flat s.n s.ways).set k (wy)).length = nn) := Lib.hid (by rw [List.length_set, flat_len, HN.out, HNN.out])
  obtain ⟨a1, c1, e1⟩ := hr1.val
  rw [HL1.out] at e1
  subst e1
  have HC1 : Hid (Chg NoF w2 x1) := Lib.hid (((Chg.refl NoF w2).drew).trans hc1)
  have HX1 := Lib.hid (HD1.out.told (f := .l ((flat s.n s.ways).set k (wy))) hr1)
  have HK1 := Lib.hid (HB.out.no HC1.out)
  refine hK _ _ (fun _ => HC1.out) ?_
  clear hK K hr1 hc1 HD1
  (try simp only [Act.put, List.setIfInBounds_toArray, List.set_cons_zero, List.set_cons_succ])
  (refine wpPlan_quiet (v := ?_) rfl (fun _ _ _ h => h) (by intro w1 hS; clear hS; go_simp; with_reducible rfl) ?_; (simp only [Act.put, List.setIfInBounds_toArray, List.set_cons_zero, List.set_cons_succ]))
  refine wpPlan_loud rfl (fun K hK => ?_)
  have sx : x1.cell? ⟨w.heap.size, 3, none⟩ = some (.slice (some ⟨bW, oW, none⟩) nn wc) := HK1.out.ref.bB.cell 3
  have zx := HK1.out.ref.bB.frozen 3
  go_simp
  refine hK _ _ (fun h => absurd rfl h) ?_
  clear hK K
  clear hops
  refine wpPlan_nil ?_
  obtain ⟨t2, HS2⟩ : ∃ zz, Hid ({ s with ways := put2 s.ways a b (wy) } = zz) := ⟨_, Lib.hid rfl⟩
  have HN2 : Hid (t2.n = n) := Lib.hid (by rw [← HS2.out]; exact HN.out)
  have HB2 : Hid (Bx S w (x1.setCell ⟨w.heap.size, 3, none⟩ (.slice a1 nn c1)) w.heap.size (w.heap.size + 1) [.slice na n nc, .slice pa n pc, .slice ha n hc, .slice a1 nn c1, .int .i64 sn, .bool dn] [.slice none 0 0, .slice none 0 0, .slice none 0 0, .slice none 0 0, .int .i64 0, .bool false] (ef t2)) := Lib.hid (by
    have h1 := HK1.out.set 3 _ _ HX1.out
    rw [HCF.out] at h1
    rw [← HS2.out]
    exact h1)
  clear sx zx HX1 HC1 HK1 HB q3 dW HRW
  generalize x1.setCell _ _ = y1 at *
  have HHV1 : Hid (t2.heard b = hv) := Lib.hid (by rw [← HS2.out]; exact HHV.out)
  have HQS1 : Hid (b < t2.n) := Lib.hid (by rw [HN2.out]; exact HQN.out)
  have q2 : y1.cell? ⟨w.heap.size, 2, none⟩ = some (.slice ha n hc) := HB2.out.ref.bB.cell 2
  have HRH : Hid (Rd (In S w w.heap.size (w.heap.size + 1)) y1 (.slice ha n hc) (lineN t2.n t2.heard)) := Lib.hid (HB2.out.at (f := .l (lineN t2.n t2.heard)) 2 rfl rfl)
  obtain ⟨bH, oH, cH, eH, -, hcH⟩ := HRH.out.form (by rw [lineN_len, HN2.out]; have := HQN.out; omega)
  rw [lineN_len, HN2.out] at eH
  simp only [Value.slice.injEq] at eH
  obtain ⟨rfl, -, rfl⟩ := eH
  have dH := hcH b (by rw [lineN_len]; exact (by rw [HN2.out]; exact HQN.out))
  rw [lineN_at _ HQS1.out, HHV1.out] at dH
  clear hcH
  clear q2
  have q2 : y1.cell? ⟨w.heap.size, 2, none⟩ = some (.slice (some ⟨bH, oH, none⟩) n hc) := HB2.out.ref.bB.cell 2
  go_wp2_with fail
  refine wp_region_plan (Chg NoF y1) 12 [(0,true),(1,true),(2,true),(3,true),(4,true),(5,true),(6,true),(7,true),(8,true),(9,false),(10,false),(11,true),(12,false)] mixed (by kernel_rfl) (Chg.refl _ _).drew ?_
  simp only [planOps, List.map_cons, List.map_nil, List.getElem?_cons_zero, List.getElem?_cons_succ, Option.getD_some]
  generalize hops : List.toArray _ = ops
  iterate 9 (refine wpPlan_quiet (v := ?_) rfl (fun _ _ _ h => h) (by intro w1 hS; have s0 := hS.cell_some q2 (fun h => h); have s1 := hS.cell_some dH (fun h => h); clear hS; go_simp; with_reducible rfl) ?_; (simp only [Act.put, List.setIfInBounds_toArray, List.set_cons_zero, List.set_cons_succ]))
  refine wpPlan_loud rfl (fun K hK => ?_)
  go_simp
  refine (with_any hv a (by have := HHB.out; omega) (by have := HA5.out; omega) _).mono ?_
  rintro e wq ⟨rfl, rfl⟩
  refine hK _ _ (fun _ => (Chg.refl NoF y1).drew) ?_
  clear hK K
  (try simp only [Act.put, List.setIfInBounds_toArray, List.set_cons_zero, List.set_cons_succ])
  rw [withB_or HHB.out HA5.out]
  refine wpPlan_loud rfl (fun K hK => ?_)
  go_simp
  have HD3 := Lib.hid (HB2.out.no ((Chg.refl NoF y1).drew))
  refine (set_ref (In S w w.heap.size (w.heap.size + 1)) _ (lineN t2.n t2.heard) b (((hv ||| 2 ^ a : Nat) : Int)) _ (HRH.out.keep ((Chg.refl NoF y1).drew) (fun _ _ h => h)) (by rw [lineN_len, HN2.out]; exact HQN.out) (by rw [lineN_len, HN2.out]; have := H5.out; omega)).mono ?_
  rintro e x3 ⟨v3, rfl, hr3, hc3⟩
  have HL3 : Hid (((lineN t2.n t2.heard).set b (((hv ||| 2 ^ a : Nat) : Int))).length = n) := Lib.hid (by rw [List.length_set, lineN_len, HN2.out])
  obtain ⟨a3, c3, e3⟩ := hr3.val
  rw [HL3.out] at e3
  subst e3
  have HC3 : Hid (Chg NoF y1 x3) := Lib.hid (((Chg.refl NoF y1).drew).trans hc3)
  have HX3 := Lib.hid (HD3.out.told (f := .l ((lineN t2.n t2.heard).set b (((hv ||| 2 ^ a : Nat) : Int)))) hr3)
  have HK3 := Lib.hid (HB2.out.no HC3.out)
  refine hK _ _ (fun _ => HC3.out) ?_
  clear hK K hr3 hc3 HD3
  (try simp only [Act.put, List.setIfInBounds_toArray, List.set_cons_zero, List.set_cons_succ])
  (refine wpPlan_quiet (v := ?_) rfl (fun _ _ _ h => h) (by intro w1 hS; clear hS; go_simp; with_reducible rfl) ?_; (simp only [Act.put, List.setIfInBounds_toArray, List.set_cons_zero, List.set_cons_succ]))
  refine wpPlan_loud rfl (fun K hK => ?_)
  have sx : x3.cell? ⟨w.heap.size, 2, none⟩ = some (.slice (some ⟨bH, oH, none⟩) n hc) := HK3.out.ref.bB.cell 2
  have zx := HK3.out.ref.bB.frozen 2
  go_simp
  refine hK _ _ (fun h => absurd rfl h) ?_
  clear hK K
  clear hops
  refine wpPlan_nil ?_
  obtain ⟨t4, HS4⟩ : ∃ zz, Hid ({ t2 with heard := put1 t2.heard b (hv ||| 2 ^ a) } = zz) := ⟨_, Lib.hid rfl⟩
  have HN4 : Hid (t4.n = n) := Lib.hid (by rw [← HS4.out]; exact HN2.out)
  have HB4 : Hid (Bx S w (x3.setCell ⟨w.heap.size, 2, none⟩ (.slice a3 n c3)) w.heap.size (w.heap.size + 1) [.slice na n nc, .slice pa n pc, .slice a3 n c3, .slice a1 nn c1, .int .i64 sn, .bool dn] [.slice none 0 0, .slice none 0 0, .slice none 0 0, .slice none 0 0, .int .i64 0, .bool false] (ef t4)) := Lib.hid (by
    have h1 := HK3.out.set 2 _ _ HX3.out
    rw [ef_heard] at h1
    rw [← HS4.out]
    exact h1)
  clear sx zx HX3 HC3 HK3 HB2 q2 dH HRH
  generalize x3.setCell _ _ = y3 at *
  have HT2 : Hid (t4 = s.take a b) := Lib.hid (by rw [← HS4.out, ← HS2.out]; unfold Wv.take; rw [HWV.out, HWY.out, HHV.out])
  have HPV2 : Hid (t4.parent b = pv) := Lib.hid (by rw [HT2.out]; exact HPV.out)
  have HQS2 : Hid (b < t4.n) := Lib.hid (by rw [HN4.out]; exact HQN.out)
  have q1 : y3.cell? ⟨w.heap.size, 1, none⟩ = some (.slice pa n pc) := HB4.out.ref.bB.cell 1
  have HRP : Hid (Rd (In S w w.heap.size (w.heap.size + 1)) y3 (.slice pa n pc) (line t4.n t4.parent)) := Lib.hid (HB4.out.at (f := .l (line t4.n t4.parent)) 1 rfl rfl)
  obtain ⟨bP, oP, cP, eP, -, hcP⟩ := HRP.out.form (by rw [line_len, HN4.out]; have := HQN.out; omega)
  rw [line_len, HN4.out] at eP
  simp only [Value.slice.injEq] at eP
  obtain ⟨rfl, -, rfl⟩ := eP
  have dP := hcP b (by rw [line_len]; exact (by rw [HN4.out]; exact HQN.out))
  rw [line_at _ HQS2.out, HPV2.out] at dP
  clear hcP
  clear q1
  have q1 : y3.cell? ⟨w.heap.size, 1, none⟩ = some (.slice (some ⟨bP, oP, none⟩) n pc) := HB4.out.ref.bB.cell 1
  by_cases hp0 : pv < 0
  case neg =>
    have hpd : decide (pv < 0) = false := decide_eq_false hp0
    have HFIN : Hid (s.step a b = (s.take a b).back b) := Lib.hid (by rw [HSTP.out]; unfold Wv.step0; rw [HPV.out, if_neg hp0])
    have HP0 := Lib.hid hp0
    have HBT : Hid (Bx S w y3 w.heap.size (w.heap.size + 1) [.slice na n nc, .slice (some ⟨bP, oP, none⟩) n pc, .slice a3 n c3, .slice a1 nn c1, .int .i64 sn, .bool dn] [.slice none 0 0, .slice none 0 0, .slice none 0 0, .slice none 0 0, .int .i64 0, .bool false] (ef (s.take a b))) := Lib.hid (by rw [← HT2.out]; exact HB4.out)
    clear hp0 HB4
    go_wp2_with (refine wpList_plain rfl (fun K hK => wp_loadT aggWave _ rfl w.heap.size [.slice na n nc, .slice (some ⟨bP, oP, none⟩) n pc, .slice a3 n c3, .slice a1 nn c1, .int .i64 sn, .bool dn] (by rfl) HBT.out.ref.bB rfl ?_); refine hK _ _ ?_; clear hK)
    refine (back_ref (In S w w.heap.size (w.heap.size + 1)) _ _ (s.take a b) HBT.out.fld HTK.out (by omega) b HQS.out (fun _ => ⟨by show 0 ≤ s.parent b; rw [HPV.out]; have := HP0.out; omega, by show s.parent b < s.n; exact HPR.out.2⟩)).mono ?_
    rintro e wb ⟨vb, rfl, usb, rfl, hr8, hc8⟩
    have HR8 := Lib.hid (HBT.out.toldS hr8)
    have HB8 := Lib.hid (HBT.out.no hc8)
    clear hr8 hc8
    go_wp2_with (refine wpList_plain rfl (fun K hK => wp_storeT aggWave _ _ rfl (w.heap.size + 1) usb _ (by rfl) (by rfl) HR8.out.len HB8.out.ref.bR rfl HR8.out.one ?_); intro w9 hB9 hc9; have HB9 := Lib.hid hB9; have HC9 : Hid (Chg NoF w w9) := Lib.hid (HB8.out.ref.chg.trans2 hc9 fun i _ hi => .inr (by have hi : i = w.heap.size + 1 := hi; omega)); have HR9 : Hid (RdS (More S w) w9 usb (ef ((s.take a b).back b))) := Lib.hid ((HR8.out.keep hc9 (fun b hb e => (HB8.out.notB b hb).2 e)).mono (fun b _ hb => hb.elim (fun h => .inl h.1) (fun h => .inr h.1))); clear hB9 hc9; refine hK _ _ ?_; clear hK)
    (try simp only [Exit.inBlock, Exit.then]); refine bodyPost_ret (results_cell2 aggWave rfl _ _ _ _ (by rfl) HB9.out HR8.out.len) rfl ?_
    exact ⟨_, by rw [HE.out]; rfl, usb, rfl, by rw [HFIN.out]; exact HR9.out, HC9.out⟩
  case pos =>
  have hpd : decide (pv < 0) = true := decide_eq_true hp0
  have HFIN : Hid (s.step a b = (((s.take a b).reach a b).spread b (s.but a b)).back b) := Lib.hid (by rw [HSTP.out]; unfold Wv.step0; rw [HPV.out, if_pos hp0])
  clear hp0
  go_upto_region 9 with fail
  have HRL5 : Hid (Rd (In S w w.heap.size (w.heap.size + 1)) y3 (.slice (some ⟨bP, oP, none⟩) n pc) (line t4.n t4.parent)) := Lib.hid (HB4.out.at (f := .l (line t4.n t4.parent)) 1 rfl rfl)
  have q1 : y3.cell? ⟨w.heap.size, 1, none⟩ = some (.slice (some ⟨bP, oP, none⟩) n pc) := HB4.out.ref.bB.cell 1
  go_wp2_with fail
  refine (set_ref (In S w w.heap.size (w.heap.size + 1)) _ (line t4.n t4.parent) b ((a : Int)) y3 HRL5.out (by rw [line_len]; exact HQS2.out) (by rw [line_len, HN4.out]; have := H5.out; omega)).mono ?_
  rintro e x5 ⟨v5, rfl, hr5, hc5⟩
  obtain ⟨a5, c5, e5⟩ := hr5.val
  rw [List.length_set, line_len, HN4.out] at e5
  subst e5
  have HX5 := Lib.hid (HB4.out.told (f := .l _) hr5)
  have HK5 := Lib.hid (HB4.out.no hc5)
  obtain ⟨t6, HS6⟩ : ∃ zz, Hid ({ t4 with parent := put1 t4.parent b (a : Int) } = zz) := ⟨_, Lib.hid rfl⟩
  have HN6 : Hid (t6.n = n) := Lib.hid (by rw [← HS6.out]; exact HN4.out)
  have HB6 : Hid (Bx S w (x5.setCell ⟨w.heap.size, 1, none⟩ (.slice a5 n c5)) w.heap.size (w.heap.size + 1) [.slice na n nc, .slice a5 n c5, .slice a3 n c3, .slice a1 nn c1, .int .i64 sn, .bool dn] [.slice none 0 0, .slice none 0 0, .slice none 0 0, .slice none 0 0, .int .i64 0, .bool false] (ef t6)) := Lib.hid (by
    have h1 := HK5.out.set 1 _ _ HX5.out
    rw [ef_parent] at h1
    rw [← HS6.out]
    exact h1)
  clear hr5 hc5 HX5 HRL5 q1 dP hpd HRP HB4
  have q1 : x5.cell? ⟨w.heap.size, 1, none⟩ = some (.slice (some ⟨bP, oP, none⟩) n pc) := HK5.out.ref.bB.cell 1
  have z1 := HK5.out.ref.bB.frozen 1
  go_upto_region 10 with fail
  clear q1 z1 HK5
  generalize x5.setCell _ _ = y5 at *
  obtain ⟨sr, HSR⟩ : ∃ zz, Hid ((s.take a b).reach a b = zz) := ⟨_, Lib.hid rfl⟩
  have HBR : Hid (Bx S w y5 w.heap.size (w.heap.size + 1) [.slice na n nc, .slice a5 n c5, .slice a3 n c3, .slice a1 nn c1, .int .i64 sn, .bool dn] [.slice none 0 0, .slice none 0 0, .slice none 0 0, .slice none 0 0, .int .i64 0, .bool false] (ef sr)) := Lib.hid (by have h1 := HB6.out; rw [← HS6.out, ef_reach, HT2.out, HSR.out] at h1; exact h1)
  have HNR2 : Hid (sr.n = n) := Lib.hid (by rw [← HSR.out]; exact HN.out)
  have HQR : Hid (b < sr.n) := Lib.hid (by rw [HNR2.out]; exact HQN.out)
  have HNVR : Hid (sr.near b = nv) := Lib.hid (by rw [← HSR.out]; exact HNV.out)
  have HBDR : Hid (Bnd sr 1) := Lib.hid (by rw [← HSR.out]; exact HTK.out.reach a b)
  obtain ⟨m, HM⟩ : ∃ zz, Hid (s.but a b = zz) := ⟨_, Lib.hid rfl⟩
  have HMS : Hid (m + 2 ^ a = nv) := Lib.hid (by rw [← HM.out, ← HNV.out]; exact but_sub s a b (by rw [HNV.out]; exact HNB.out) HA5.out HNR.out)
  have HMB : Hid (m < 32) := Lib.hid (Nat.lt_of_le_of_lt (by rw [← HMS.out]; exact Nat.le_add_right _ _) HNB.out)
  obtain ⟨pw, HPW⟩ : ∃ zz, Hid (2 ^ a = zz) := ⟨_, Lib.hid rfl⟩
  have HW7 : Hid (IntKind.i64.wrap ((nv : Int) - (pw : Int)) = (m : Int)) := Lib.hid (by rw [show (nv : Int) - (pw : Int) = m by have := HMS.out; rw [HPW.out] at this; omega]; exact (wrap_both (by omega) (by have := HMB.out; omega)).1)
  rw [HM.out] at HFIN
  clear HB6
  have q0 : y5.cell? ⟨w.heap.size, 0, none⟩ = some (.slice na n nc) := HBR.out.ref.bB.cell 0
  have HRE : Hid (Rd (In S w w.heap.size (w.heap.size + 1)) y5 (.slice na n nc) (lineN sr.n sr.near)) := Lib.hid (HBR.out.at (f := .l (lineN sr.n sr.near)) 0 rfl rfl)
  obtain ⟨bE, oE, cE, eE, -, hcE⟩ := HRE.out.form (by rw [lineN_len, HNR2.out]; have := HQN.out; omega)
  rw [lineN_len, HNR2.out] at eE
  simp only [Value.slice.injEq] at eE
  obtain ⟨rfl, -, rfl⟩ := eE
  have dE := hcE b (by rw [lineN_len]; exact (by rw [HNR2.out]; exact HQN.out))
  rw [lineN_at _ HQR.out, HNVR.out] at dE
  clear hcE
  clear q0
  have q0 : y5.cell? ⟨w.heap.size, 0, none⟩ = some (.slice (some ⟨bE, oE, none⟩) n nc) := HBR.out.ref.bB.cell 0
  refine wp_region_plan (Chg NoF y5) 11 [(0,true),(1,true),(2,true),(3,true),(4,true),(5,true),(6,true),(7,true),(8,false),(9,true),(10,false),(11,false)] mixed (by kernel_rfl) (Chg.refl _ _).drew ?_
  simp only [planOps, List.map_cons, List.map_nil, List.getElem?_cons_zero, List.getElem?_cons_succ, Option.getD_some]
  generalize hops : List.toArray _ = ops
  refine wpPlan_quiet rfl (fun _ _ _ h => h) (fun w1 hS => quiet_loadT aggWave _ rfl w.heap.size [.slice (some ⟨bE, oE, none⟩) n nc, .slice a5 n c5, .slice a3 n c3, .slice a1 nn c1, .int .i64 sn, .bool dn] (by rfl) (HBR.out.ref.bB.keep hS (fun h => h)) rfl) ?_
  (simp only [Act.put, List.setIfInBounds_toArray, List.set_cons_zero, List.set_cons_succ])
  iterate 7 (refine wpPlan_quiet (v := ?_) rfl (fun _ _ _ h => h) (by intro w1 hS; have s0 := hS.cell_some q0 (fun h => h); have s1 := hS.cell_some dE (fun h => h); clear hS; go_simp; with_reducible rfl) ?_; (simp only [Act.put, List.setIfInBounds_toArray, List.set_cons_zero, List.set_cons_succ]))
  refine wpPlan_loud rfl (fun K hK => ?_)
  go_simp
  refine (pow2_any a _ (by have := HA5.out; omega)).mono ?_
  rintro e wq ⟨rfl, rfl⟩
  refine hK _ _ (fun _ => (Chg.refl NoF y5).drew) ?_
  clear hK K
  (try simp only [Act.put, List.setIfInBounds_toArray, List.set_cons_zero, List.set_cons_succ])
  rw [HPW.out]
  have hw7 := HW7.out
  (refine wpPlan_quiet (v := ?_) rfl (fun _ _ _ h => h) (by intro w1 hS; clear hS; go_simp; with_reducible rfl) ?_; (simp only [Act.put, List.setIfInBounds_toArray, List.set_cons_zero, List.set_cons_succ]))
  clear hw7
  refine wpPlan_loud rfl (fun K hK => ?_)
  go_simp
  have HD8 := Lib.hid (HBR.out.no ((Chg.refl NoF y5).drew))
  refine (spread_ref (In S w w.heap.size (w.heap.size + 1)) _ _ sr HD8.out.fld HBDR.out (by omega) b m HQR.out (by have := HMB.out; omega)).mono ?_
  rintro e w8 ⟨v8, rfl, us8, rfl, hr8, hc8⟩
  have HC8 : Hid (Chg NoF y5 w8) := Lib.hid (((Chg.refl NoF y5).drew).trans hc8)
  have HR8 := Lib.hid (HD8.out.toldS hr8)
  have HB8 := Lib.hid (HBR.out.no HC8.out)
  refine hK _ _ (fun _ => HC8.out) ?_
  clear hK K hr8 hc8 HD8
  (try simp only [Act.put, List.setIfInBounds_toArray, List.set_cons_zero, List.set_cons_succ])
  refine wpPlan_loud rfl (fun K hK => ?_)
  refine wp_storeT aggWave _ _ rfl w.heap.size us8 _ (by rfl) (by rfl) HR8.out.len HB8.out.ref.bB rfl HR8.out.one ?_
  intro w9 hB9 hc9
  have HB9 := Lib.hid (HB8.out.setB hB9 hc9 HR8.out)
  refine hK _ _ (fun h => absurd rfl h) ?_
  clear hK K hB9 hc9
  (try simp only [Act.put, List.setIfInBounds_toArray, List.set_cons_zero, List.set_cons_succ])
  clear hops
  refine wpPlan_nil ?_
  have HL8 := Lib.hid HR8.out.len
  have HBD9 : Hid (Bnd (sr.spread b m) 2) := Lib.hid (HBDR.out.spreadTo b m sr.n (Nat.le_refl _))
  have HSN9 : Hid ((sr.spread b m).n = sr.n) := Lib.hid (spreadTo_n sr b m sr.n)
  have HPR9 : Hid ((sr.spread b m).parent b = (a : Int)) := Lib.hid (by rw [spread_eq, ← HSR.out]; exact put1_self _ _ _)
  rw [HSR.out] at HFIN
  clear HB8 HR8 HC8 HBR q0 dE HRE
  go_wp2_with (refine wpList_plain rfl (fun K hK => wp_loadT aggWave _ rfl w.heap.size us8 (by rfl) HB9.out.ref.bB HL8.out ?_); refine hK _ _ ?_; clear hK)
  refine (back_ref (In S w w.heap.size (w.heap.size + 1)) _ _ (sr.spread b m) HB9.out.fld HBD9.out (by omega) b (by rw [HSN9.out]; exact HQR.out) (fun _ => ⟨by rw [HPR9.out]; omega, by rw [HPR9.out, HSN9.out, HNR2.out]; have := HPN.out; omega⟩)).mono ?_
  rintro e wb ⟨vb, rfl, usb, rfl, hr8, hc8⟩
  have HR8 := Lib.hid (HB9.out.toldS hr8)
  have HB8 := Lib.hid (HB9.out.no hc8)
  clear hr8 hc8
  go_wp2_with (refine wpList_plain rfl (fun K hK => wp_storeT aggWave _ _ rfl (w.heap.size + 1) usb _ (by rfl) (by rfl) HR8.out.len HB8.out.ref.bR rfl HR8.out.one ?_); intro w9 hB9 hc9; have HB9 := Lib.hid hB9; have HC9 : Hid (Chg NoF w w9) := Lib.hid (HB8.out.ref.chg.trans2 hc9 fun i _ hi => .inr (by have hi : i = w.heap.size + 1 := hi; omega)); have HR9 : Hid (RdS (More S w) w9 usb (ef ((sr.spread b m).back b))) := Lib.hid ((HR8.out.keep hc9 (fun b hb e => (HB8.out.notB b hb).2 e)).mono (fun b _ hb => hb.elim (fun h => .inl h.1) (fun h => .inr h.1))); clear hB9 hc9; refine hK _ _ ?_; clear hK)
  (try simp only [Exit.inBlock, Exit.then]); refine bodyPost_ret (results_cell2 aggWave rfl _ _ _ _ (by rfl) HB9.out HR8.out.len) rfl ?_
  exact ⟨_, by rw [HE.out]; rfl, usb, rfl, by rw [HFIN.out]; exact HR9.out, HC9.out⟩

end Go.Proofs.YtckgkgaoioigdaaDoor
