/-
  The document's wave that comes back: something is sent to each of a set; it comes back.
  Conditions: the wave's lists are read, and tell the program's wave.
-/
import Derived.Test.YtckgkgaoioigdaaDoorEcL
import Derived.Test.YtckgkgaoioigdaaDoorEcM
import Derived.Deep.DeepCutAuto
namespace Go.Proofs.YtckgkgaoioigdaaDoor
open Go Go.RowKit

theorem wrap_both {x : Int} (h0 : 0 ≤ x) (h1 : x ≤ 3000) : IntKind.i64.wrap x = x ∧ wrap64 x = x := ⟨IntWalk.i64_in _ (by omega), IntWalk.wrap64_in _ (by omega)⟩
theorem wrap_one {x y : Int} (h : x + 1 = y) (h0 : 0 ≤ x) (h1 : x ≤ 2900) : IntKind.i64.wrap (x + 1) = y ∧ wrap64 (x + 1) = y := by
  rw [h]; exact wrap_both (by omega) (by omega)

theorem aggWave : AggT Tryd.prog 33 6 := AggT.mk' (fun w => by kernel_rfl) Tryd.underlying33 rfl (by kernel_rfl)

theorem ef_opn {S : Nat → Prop} {w : World} {us : List Value} {s : Wv} (h : RdS S w us (ef s)) : ∃ (na : Option Addr) (nc : Nat) (pa : Option Addr) (pc : Nat) (ha : Option Addr) (hc : Nat) (wa : Option Addr) (wc : Nat), us = [.slice na s.n nc, .slice pa s.n pc, .slice ha s.n hc, .slice wa (s.n * s.n) wc, .int .i64 s.sent, .bool s.done] := by
  obtain ⟨v0, us, rfl, h0, h⟩ := h.cons_inv
  obtain ⟨v1, us, rfl, h1, h⟩ := h.cons_inv
  obtain ⟨v2, us, rfl, h2, h⟩ := h.cons_inv
  obtain ⟨v3, us, rfl, h3, h⟩ := h.cons_inv
  obtain ⟨v4, us, rfl, h4, h⟩ := h.cons_inv
  obtain ⟨v5, us, rfl, h5, h⟩ := h.cons_inv
  obtain rfl := h.nil_inv
  obtain ⟨na, nc, rfl⟩ := Rd.val h0
  obtain ⟨pa, pc, rfl⟩ := Rd.val h1
  obtain ⟨ha, hc, rfl⟩ := Rd.val h2
  obtain ⟨wa, wc, rfl⟩ := Rd.val h3
  obtain rfl := h4
  obtain rfl := h5
  rw [lineN_len, line_len, lineN_len, flat_len]
  exact ⟨_, _, _, _, _, _, _, _, rfl⟩

set_option maxHeartbeats 8000000 in
set_option maxRecDepth 100000 in
theorem spread_ref (S : Nat → Prop) (w : World) (us : List Value) (s : Wv) (h : RdS S w us (ef s)) {kb : Int} (hb : Bnd s kb) (hk : kb ≤ 20) (p m : Nat) (hp : p < s.n) (hm : m < 2 ^ 40) :
    Calls Tryd.prog 29 #[.agg us.toArray, .int .i64 p, .int .i64 m] w (fun e w' => ∃ v, e = .returned v ∧ AnsF S w (ef (s.spread p m)) v w') := by
  obtain ⟨na, nc, pa, pc, ha, hc, wa, wc, rfl⟩ := ef_opn h
  have HU := Lib.hid h
  have HBD := Lib.hid hb
  have HKB := Lib.hid hk
  obtain ⟨n, HN⟩ : ∃ n, Hid (s.n = n) := ⟨_, Lib.hid rfl⟩
  obtain ⟨nn, HNN⟩ : ∃ nn, Hid (n * n = nn) := ⟨_, Lib.hid rfl⟩
  have H5 : Hid (n ≤ 5) := Lib.hid (by rw [← HN.out]; exact hb.n5)
  have HN25 : Hid (nn ≤ 25) := Lib.hid (by rw [← HNN.out]; exact Nat.mul_le_mul H5.out H5.out)
  obtain ⟨sn, HSN⟩ : ∃ x, Hid (s.sent = x) := ⟨_, Lib.hid rfl⟩
  obtain ⟨dn, HDN⟩ : ∃ x, Hid (s.done = x) := ⟨_, Lib.hid rfl⟩
  rw [HN.out, HNN.out, HSN.out, HDN.out] at HU ⊢
  clear h hb hk
  have HPN : Hid (p < n) := Lib.hid (by rw [← HN.out]; exact hp)
  have HM := Lib.hid hm
  clear hp hm
  go_enter Tryd.func29, Tryd.ntmps29
  go_upto_region 1 with fail
  have HB := Lib.hid (Bx.start w [.slice na n nc, .slice pa n pc, .slice ha n hc, .slice wa nn wc, .int .i64 sn, .bool dn] [.slice none 0 0, .slice none 0 0, .slice none 0 0, .slice none 0 0, .int .i64 0, .bool false] (ef s) HU.out 33 33)
  generalize ((w.alloc _).alloc _) = w2 at *
  have q0 : w2.cell? ⟨w.heap.size, 0, none⟩ = some (.slice na n nc) := HB.out.ref.bB.cell 0
  go_wp2_with fail
  go_loopw [8] (fun q wr => ∃ j : Nat, j ≤ n ∧ q = .int .i64 j ∧ ∃ us, Hid (Bx S w wr w.heap.size (w.heap.size + 1) us [.slice none 0 0, .slice none 0 0, .slice none 0 0, .slice none 0 0, .int .i64 0, .bool false] (ef (s.spreadTo p m j)))) (fun q _ => n - (intOf q).toNat)
  case atStart => exact ⟨0, Nat.zero_le _, rfl, _, HB⟩
  case round =>
    clear HB q0
    obtain ⟨j, hjn, rfl, us, HJ⟩ := hrel
    obtain ⟨s5, HS5⟩ : ∃ zz, Hid (s.spreadTo p m j = zz) := ⟨_, Lib.hid rfl⟩
    have HB5 : Hid (Bnd s5 (kb + 1)) := Lib.hid (by rw [← HS5.out]; exact HBD.out.spreadTo p m j (by rw [HN.out]; exact hjn))
    rw [HS5.out] at HJ
    have HN5 : Hid (s5.n = n) := Lib.hid (by rw [← HS5.out, spreadTo_n]; exact HN.out)
    clear HSN HDN
    obtain ⟨sn, HSN⟩ : ∃ x, Hid (s5.sent = x) := ⟨_, Lib.hid rfl⟩
    obtain ⟨dn, HDN⟩ : ∃ x, Hid (s5.done = x) := ⟨_, Lib.hid rfl⟩
    obtain ⟨na, nc, pa, pc, ha, hc, wa, wc, rfl⟩ := ef_opn HJ.out.fld
    rw [HN5.out, HNN.out, HSN.out, HDN.out] at HJ
    by_cases hj : j < n
    · have hj1 : (j : Int) < n := by omega
      have HJN : Hid (j + 1 ≤ n) := Lib.hid hj
      have HBIT := Lib.hid (fun wq => bit_ref m j HM.out (by have := H5.out; omega) wq)
      have hn5 := H5.out
      cases hcj : m.testBit j with
      | false =>
        have HJ2 : Hid (Bx S w wr w.heap.size (w.heap.size + 1) [.slice na n nc, .slice pa n pc, .slice ha n hc, .slice wa nn wc, .int .i64 sn, .bool dn] [.slice none 0 0, .slice none 0 0, .slice none 0 0, .slice none 0 0, .int .i64 0, .bool false] (ef (s.spreadTo p m (j + 1)))) := Lib.hid (by rw [spread_skip s p m j hcj, HS5.out]; exact HJ.out)
        rw [hcj] at HBIT
        clear hj hjn hcj
        go_wp2_with fail
        refine (HBIT.out wr).mono ?_
        rintro e wq ⟨rfl, rfl⟩
        go_wp2
        go_roundw
        case rel => first | exact ⟨j + 1, HJN.out, by go_num, _, HJ2⟩ | ((repeat apply Exists.intro); exact ⟨⟨HJN.out, by go_num, _, HJ2⟩, rfl⟩)
        case measure => have := HJN.out; simp [intOf]; omega
      | true =>
        have HJP : Hid (j < n) := Lib.hid hj
        have HJS : Hid (j < s5.n) := Lib.hid (by rw [HN5.out]; exact hj)
        have HPS : Hid (p < s5.n) := Lib.hid (by rw [HN5.out]; exact HPN.out)
        obtain ⟨wv, HWV⟩ : ∃ x, Hid (s5.ways p j = x) := ⟨_, Lib.hid rfl⟩
        have HWB : Hid (0 ≤ wv ∧ wv ≤ 30) := Lib.hid (by have h1 := HB5.out.ways p j HPS.out HJS.out; rw [HWV.out] at h1; have := HKB.out; omega)
        have HSB : Hid (0 ≤ sn ∧ sn ≤ 2900) := Lib.hid (by have h1 := HB5.out.sent; rw [HSN.out] at h1; have := HKB.out; omega)
        obtain ⟨wy, HWY⟩ : ∃ x, Hid (wv + 1 = x) := ⟨_, Lib.hid rfl⟩
        obtain ⟨sy, HSY⟩ : ∃ x, Hid (sn + 1 = x) := ⟨_, Lib.hid rfl⟩
        have HW5 := Lib.hid (wrap_one HWY.out HWB.out.1 (by have := HWB.out.2; omega))
        have HW6 := Lib.hid (wrap_one HSY.out HSB.out.1 (by have := HSB.out.2; omega))
        have HSP : Hid (s.spreadTo p m (j + 1) = { s5 with ways := put2 s5.ways p j wy, sent := sy }) := Lib.hid (by rw [Wv.spreadTo, if_pos hcj, HS5.out, HWV.out, HSN.out, HWY.out, HSY.out])
        obtain ⟨mm, HMM⟩ : ∃ mm, Hid (p * n = mm) := ⟨_, Lib.hid rfl⟩
        obtain ⟨k, HK⟩ : ∃ k, Hid (mm + j = k) := ⟨_, Lib.hid rfl⟩
        have HKN : Hid (k < nn) := Lib.hid (by rw [← HK.out, ← HMM.out, ← HNN.out]; exact flat_lt HPN.out HJP.out)
        have HMM2 : Hid (mm ≤ 25) := Lib.hid (by have := HK.out; have := HKN.out; have := HN25.out; omega)
        have HW1 : Hid (IntKind.i64.wrap ((p : Int) * (n : Int)) = (mm : Int) ∧ wrap64 ((p : Int) * (n : Int)) = (mm : Int)) := Lib.hid (by rw [← Int.natCast_mul, HMM.out]; exact wrap_both (by omega) (by have := HMM2.out; omega))
        have HW2 : Hid (IntKind.i64.wrap ((mm : Int) + (j : Int)) = (k : Int) ∧ wrap64 ((mm : Int) + (j : Int)) = (k : Int)) := Lib.hid (by rw [← Int.natCast_add, HK.out]; exact wrap_both (by omega) (by have := HKN.out; have := HN25.out; omega))
        have hkn : (k : Int) < nn := by have := HKN.out; omega
        have HIX : Hid (p * s5.n + j = k) := Lib.hid (by rw [HN5.out, HMM.out, HK.out])
        have q3 : wr.cell? ⟨w.heap.size, 3, none⟩ = some (.slice wa nn wc) := HJ.out.ref.bB.cell 3
        have HRW : Hid (Rd (In S w w.heap.size (w.heap.size + 1)) wr (.slice wa nn wc) (flat s5.n s5.ways)) := Lib.hid (HJ.out.at (f := .l (flat s5.n s5.ways)) 3 rfl rfl)
        obtain ⟨bW, oW, cW, eW, -, hcW⟩ := HRW.out.form (by rw [flat_len, HN5.out, HNN.out]; have := HKN.out; omega)
        rw [flat_len, HN5.out, HNN.out] at eW
        simp only [Value.slice.injEq] at eW
        obtain ⟨rfl, -, rfl⟩ := eW
        have dW := hcW k (by rw [flat_len]; exact (by rw [HN5.out, HNN.out]; exact HKN.out))
        rw [show (flat s5.n s5.ways).getD k 0 = wv by rw [← HIX.out, flat_at _ HPS.out HJS.out, HWV.out]] at dW
        clear hcW
        rw [hcj] at HBIT
        clear hj hjn hcj q3
        have q3 : wr.cell? ⟨w.heap.size, 3, none⟩ = some (.slice (some ⟨bW, oW, none⟩) nn wc) := HJ.out.ref.bB.cell 3
        go_wp2_with fail
        refine (HBIT.out wr).mono ?_
        rintro e wq ⟨rfl, rfl⟩
        go_wp2_with fail
        have HCF : Hid ((ef s5).set 3 (.l ((flat s5.n s5.ways).set k (wy))) = ef { s5 with ways := put2 s5.ways p j (wy) }) := Lib.hid (by rw [← HIX.out]; exact ef_way s5 HJS.out _)
        have hw1 := HW1.out.1
        have hw2 := HW2.out.1
        have hw3 := HW1.out.2
        have hw4 := HW2.out.2
        have hw5 := HW5.out.1
        have hw6 := HW5.out.2
        refine wp_region_plan (Chg NoF wr) 19 [(0,true),(1,true),(2,true),(3,true),(4,true),(5,true),(6,true),(7,true),(8,true),(9,true),(10,true),(11,true),(12,true),(13,true),(14,true),(15,true),(16,true),(17,false),(18,true),(19,false)] mixed (by kernel_rfl) (Chg.refl _ _).drew ?_
        simp only [planOps, List.map_cons, List.map_nil, List.getElem?_cons_zero, List.getElem?_cons_succ, Option.getD_some]
        generalize hops : List.toArray _ = ops
        iterate 17 (refine wpPlan_quiet (v := ?_) rfl (fun _ _ _ h => h) (by intro w1 hS; have s0 := hS.cell_some q3 (fun h => h); have s1 := hS.cell_some dW (fun h => h); clear hS; go_simp; with_reducible rfl) ?_; (simp only [Act.put, List.setIfInBounds_toArray, List.set_cons_zero, List.set_cons_succ]))
        clear hw1 hw2 hw3 hw4 hw5 hw6
        refine wpPlan_loud rfl (fun K hK => ?_)
        go_simp
        have HD1 := Lib.hid (HJ.out.no ((Chg.refl NoF wr).drew))
        refine (set_ref (In S w w.heap.size (w.heap.size + 1)) _ (flat s5.n s5.ways) k (wy) _ (HRW.out.keep ((Chg.refl NoF wr).drew) (fun _ _ h => h)) (by rw [flat_len, HN5.out, HNN.out]; exact HKN.out) (by rw [flat_len, HN5.out, HNN.out]; have := HN25.out; omega)).mono ?_
        rintro e x1 ⟨v1, rfl, hr1, hc1⟩
        have HL1 : Hid (((flat s5.n s5.ways).set k (wy)).length = nn) := Lib.hid (by rw [List.length_set, flat_len, HN5.out, HNN.out])
        obtain ⟨a1, c1, e1⟩ := hr1.val
        rw [HL1.out] at e1
        subst e1
        have HC1 : Hid (Chg NoF wr x1) := Lib.hid (((Chg.refl NoF wr).drew).trans hc1)
        have HX1 := Lib.hid (HD1.out.told (f := .l ((flat s5.n s5.ways).set k (wy))) hr1)
        have HK1 := Lib.hid (HJ.out.no HC1.out)
        refine hK _ _ (fun _ => HC1.out) ?_
        clear hK K hr1 hc1 HD1
        (try simp only [Act.put, List.setIfInBounds_toArray, List.set_cons_zero, List.set_cons_succ])
        (refine wpPlan_quiet (v := ?_) rfl (fun _ _ _ h => h) (by intro w1 hS; clear hS; go_simp; with_reducible rfl) ?_; (simp only [Act.put, List.setIfInBounds_toArray, List.set_cons_zero, List.set_cons_succ]))
        refine wpPlan_loud rfl (fun K hK => ?_)
        have sx : x1.cell? ⟨w.heap.size, 3, none⟩ = some (.slice (some ⟨bW, oW, none⟩) nn wc) := HK1.out.ref.bB.cell 3
        have zx := HK1.out.ref.bB.frozen 3
        go_simp
        refine hK _ _ (fun h => absurd rfl h) ?_
        clear hK K
        clear hops
        refine wpPlan_nil ?_
        obtain ⟨t2, HS2⟩ : ∃ zz, Hid ({ s5 with ways := put2 s5.ways p j (wy) } = zz) := ⟨_, Lib.hid rfl⟩
        have HN2 : Hid (t2.n = n) := Lib.hid (by rw [← HS2.out]; exact HN5.out)
        have HB2 : Hid (Bx S w (x1.setCell ⟨w.heap.size, 3, none⟩ (.slice a1 nn c1)) w.heap.size (w.heap.size + 1) [.slice na n nc, .slice pa n pc, .slice ha n hc, .slice a1 nn c1, .int .i64 sn, .bool dn] [.slice none 0 0, .slice none 0 0, .slice none 0 0, .slice none 0 0, .int .i64 0, .bool false] (ef t2)) := Lib.hid (by
          have h1 := HK1.out.set 3 _ _ HX1.out
          rw [HCF.out] at h1
          rw [← HS2.out]
          exact h1)
        clear sx zx HX1 HC1 HK1 HJ q3 dW HRW
        generalize x1.setCell _ _ = y1 at *
        have q4 : y1.cell? ⟨w.heap.size, 4, none⟩ = some (.int .i64 sn) := HB2.out.ref.bB.cell 4
        have hw7 := HW6.out.1
        have hw8 := HW6.out.2
        have z4 := HB2.out.ref.bB.frozen 4
        have HJ2 : Hid (Bx S w (y1.setCell ⟨w.heap.size, 4, none⟩ (.int .i64 sy)) w.heap.size (w.heap.size + 1) ([.slice na n nc, .slice pa n pc, .slice ha n hc, .slice a1 nn c1, .int .i64 sy, .bool dn]) [.slice none 0 0, .slice none 0 0, .slice none 0 0, .slice none 0 0, .int .i64 0, .bool false] (ef (s.spreadTo p m (j + 1)))) := Lib.hid (by
          have h1 := HB2.out.set 4 (.int .i64 sy) (.i sy) rfl
          rw [ef_sent, ← HS2.out] at h1
          rw [HSP.out]
          exact h1)
        go_wp2
        go_roundw
        case rel => first | exact ⟨j + 1, HJN.out, by go_num, _, HJ2⟩ | ((repeat apply Exists.intro); exact ⟨⟨HJN.out, by go_num, _, HJ2⟩, rfl⟩)
        case measure => have := HJN.out; simp [intOf]; omega
    · obtain rfl : n = j := by omega
      have hj1 : ¬ (n : Int) < n := by omega
      have HFIN : Hid (s.spread p m = s5) := Lib.hid (by unfold Wv.spread; rw [HN.out]; exact HS5.out)
      clear hj hjn
      go_wp2_with (first | (refine wpList_plain rfl (fun K hK => wp_loadT aggWave _ rfl w.heap.size [.slice na n nc, .slice pa n pc, .slice ha n hc, .slice wa nn wc, .int .i64 sn, .bool dn] (by rfl) HJ.out.ref.bB rfl ?_); refine hK _ _ ?_; clear hK) | (refine wpList_plain rfl (fun K hK => wp_storeT aggWave _ _ rfl (w.heap.size + 1) [.slice na n nc, .slice pa n pc, .slice ha n hc, .slice wa nn wc, .int .i64 sn, .bool dn] _ (by rfl) (by rfl) rfl HJ.out.ref.bR rfl rfl ?_); intro wz hBz hcz; have HBZ := Lib.hid (HJ.out.setR hBz hcz); clear hBz hcz; refine hK _ _ ?_; clear hK))
      (try simp only [Exit.inBlock, Exit.then]); refine bodyPost_ret (results_cell1 aggWave rfl _ _ _ _ (by rfl) HBZ.out.ref.bR rfl) rfl ?_
      rw [HFIN.out]
      exact ⟨_, rfl, HBZ.out.ans⟩

end Go.Proofs.YtckgkgaoioigdaaDoor
