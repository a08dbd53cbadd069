/-
  The document's answers about the lock for which one asks all others: a message that comes.
  Conditions: the answer's lists are read, and tell the program's net.
-/
import Derived.Test.YtmkjfiopkmcjcaaDoorGrS
namespace Go.Proofs.YtmkjfiopkmcjcaaDoor
open Go Go.RowKit

theorem gpop_len (s : GNet) (a b p q : Nat) : ((s.pop a b).ways p q).length ≤ (s.ways p q).length := by
  show (put2 s.ways a b (s.ways a b).tail p q).length ≤ _
  by_cases e : p = a ∧ q = b
  · obtain ⟨rfl, rfl⟩ := e; rw [put2_self, List.length_tail]; omega
  · rw [put2_ne _ _ (by omega)]; exact Nat.le_refl _

set_option maxHeartbeats 8000000 in
set_option maxRecDepth 100000 in
theorem step_ref (S : Nat → Prop) (w : World) (us : List Value) (s : GNet) (h : RdS S w us (gf s)) (hs : Sane s) (p q : Int) :
    Calls Tryd.prog 11 #[.agg us.toArray, .int .i64 p, .int .i64 q] w (GAns S w (s.step p q) (s.stepErr p q)) := by
  have h4 := hs.n4
  obtain ⟨sa, sc, ka, kc, ta, tc, ga, gc, ha, hc, wa, wc, rfl⟩ := gf_opn h
  have HU := Lib.hid h
  obtain ⟨n, HN⟩ : ∃ n, Hid (s.n = n) := ⟨_, Lib.hid rfl⟩
  obtain ⟨nn, HNN⟩ : ∃ nn, Hid (n * n = nn) := ⟨_, Lib.hid rfl⟩
  have H5 : Hid (n ≤ 4) := Lib.hid (by rw [← HN.out]; exact h4)
  have HN25 : Hid (nn ≤ 16) := Lib.hid (by rw [← HNN.out]; exact Nat.mul_le_mul H5.out H5.out)
  rw [HN.out, HNN.out] at HU ⊢
  have HS := Lib.hid hs
  have hwn : wrap64 ((n : Int) - 1) = (n : Int) - 1 := IntWalk.wrap64_in _ (by have := H5.out; omega)
  clear h h4 hs
  have BAD : Hid (∀ x (w' : World), s.stepErr p q = x → x ≠ 0 → Bx S w w' w.heap.size (w.heap.size + 1) [.int .i64 (n : Int), .slice sa n sc, .slice ka n kc, .slice ta n tc, .slice ga n gc, .slice ha n hc, .slice wa nn wc] [.int .i64 (n : Int), .slice sa n sc, .slice ka n kc, .slice ta n tc, .slice ga n gc, .slice ha n hc, .slice wa nn wc] (gf s) → GAns S w (s.step p q) (s.stepErr p q) (.returned (.tuple #[.agg #[.int .i64 (n : Int), .slice sa n sc, .slice ka n kc, .slice ta n tc, .slice ga n gc, .slice ha n hc, .slice wa nn wc], .int .i64 x])) w') := Lib.hid fun x w' he hx hR => by
    have h1 : s.step p q = s := by unfold GNet.step; rw [if_neg (by rw [he]; exact hx)]
    rw [h1, he]
    exact ⟨_, rfl, hR.ans⟩
  have HIp : Hid (inB p 0 ((n : Int) - 1) = s.is p) := Lib.hid (by rw [← HN.out]; exact s.is_in p)
  have HIq : Hid (inB q 0 ((n : Int) - 1) = s.is q) := Lib.hid (by rw [← HN.out]; exact s.is_in q)
  cases hip : s.is p with
  | false =>
    have HE : Hid (s.stepErr p q = 1) := Lib.hid (by unfold GNet.stepErr; rw [if_pos (.inl hip)])
    rw [hip] at HIp
    clear hip
    go_enter Tryd.func11, Tryd.ntmps11
    go_wp2_with fail
    refine (ref6In_any _ _ _ _).mono ?_
    rintro e w2 ⟨rfl, rfl⟩
    rw [HIp.out]
    have HB := Lib.hid (Bx.start w [.int .i64 (n : Int), .slice sa n sc, .slice ka n kc, .slice ta n tc, .slice ga n gc, .slice ha n hc, .slice wa nn wc] [.int .i64 0, .slice none 0 0, .slice none 0 0, .slice none 0 0, .slice none 0 0, .slice none 0 0, .slice none 0 0] (gf s) HU.out 31 31)
    generalize ((w.alloc _).alloc _) = w2 at *
    go_wp2_with (first | (refine wpList_plain rfl (fun K hK => wp_loadT aggGrant _ rfl w.heap.size [.int .i64 (n : Int), .slice sa n sc, .slice ka n kc, .slice ta n tc, .slice ga n gc, .slice ha n hc, .slice wa nn wc] (by rfl) HB.out.ref.bB rfl ?_); refine hK _ _ ?_; clear hK) | (refine wpList_plain rfl (fun K hK => wp_storeT aggGrant _ _ rfl (w.heap.size + 1) [.int .i64 (n : Int), .slice sa n sc, .slice ka n kc, .slice ta n tc, .slice ga n gc, .slice ha n hc, .slice wa nn wc] _ (by rfl) (by rfl) rfl HB.out.ref.bR rfl rfl ?_); intro wz hBz hcz; have HBZ := Lib.hid (HB.out.setR hBz hcz); clear hBz hcz; refine hK _ _ ?_; clear hK))
    (try simp only [Exit.inBlock, Exit.then]); refine bodyPost_ret (results_cell2 aggGrant rfl _ _ _ _ (by rfl) HBZ.out.ref.bR rfl) rfl ?_
    exact BAD.out 1 _ HE.out (by omega) HBZ.out
  | true =>
  cases hiq : s.is q with
  | false =>
    have HE : Hid (s.stepErr p q = 1) := Lib.hid (by unfold GNet.stepErr; rw [if_pos (.inr hiq)])
    rw [hip] at HIp
    rw [hiq] at HIq
    clear hip hiq
    go_enter Tryd.func11, Tryd.ntmps11
    go_wp2_with fail
    refine (ref6In_any _ _ _ _).mono ?_
    rintro e w2 ⟨rfl, rfl⟩
    rw [HIp.out]
    go_wp2_with fail
    refine (ref6In_any _ _ _ _).mono ?_
    rintro e w2 ⟨rfl, rfl⟩
    rw [HIq.out]
    have HB := Lib.hid (Bx.start w [.int .i64 (n : Int), .slice sa n sc, .slice ka n kc, .slice ta n tc, .slice ga n gc, .slice ha n hc, .slice wa nn wc] [.int .i64 0, .slice none 0 0, .slice none 0 0, .slice none 0 0, .slice none 0 0, .slice none 0 0, .slice none 0 0] (gf s) HU.out 31 31)
    generalize ((w.alloc _).alloc _) = w2 at *
    go_wp2_with (first | (refine wpList_plain rfl (fun K hK => wp_loadT aggGrant _ rfl w.heap.size [.int .i64 (n : Int), .slice sa n sc, .slice ka n kc, .slice ta n tc, .slice ga n gc, .slice ha n hc, .slice wa nn wc] (by rfl) HB.out.ref.bB rfl ?_); refine hK _ _ ?_; clear hK) | (refine wpList_plain rfl (fun K hK => wp_storeT aggGrant _ _ rfl (w.heap.size + 1) [.int .i64 (n : Int), .slice sa n sc, .slice ka n kc, .slice ta n tc, .slice ga n gc, .slice ha n hc, .slice wa nn wc] _ (by rfl) (by rfl) rfl HB.out.ref.bR rfl rfl ?_); intro wz hBz hcz; have HBZ := Lib.hid (HB.out.setR hBz hcz); clear hBz hcz; refine hK _ _ ?_; clear hK))
    (try simp only [Exit.inBlock, Exit.then]); refine bodyPost_ret (results_cell2 aggGrant rfl _ _ _ _ (by rfl) HBZ.out.ref.bR rfl) rfl ?_
    exact BAD.out 1 _ HE.out (by omega) HBZ.out
  | true =>
  have HOK : Hid (¬ (s.is p = false ∨ s.is q = false)) := Lib.hid (by rw [hip, hiq]; simp)
  rw [hip] at HIp
  rw [hiq] at HIq
  obtain ⟨a, rfl, haa⟩ := (s.is_iff p).1 hip
  obtain ⟨b, rfl, hbb⟩ := (s.is_iff q).1 hiq
  have HPS := Lib.hid haa
  have HQS := Lib.hid hbb
  have HPN : Hid (a < n) := Lib.hid (by rw [← HN.out]; exact haa)
  have HQN : Hid (b < n) := Lib.hid (by rw [← HN.out]; exact hbb)
  have han : (a : Int) < n := by have := HPN.out; omega
  have hbn : (b : Int) < n := by have := HQN.out; omega
  clear haa hbb hip hiq
  obtain ⟨mm, HMM⟩ : ∃ mm, Hid (a * n = mm) := ⟨_, Lib.hid rfl⟩
  obtain ⟨k, HK⟩ : ∃ k, Hid (mm + b = k) := ⟨_, Lib.hid rfl⟩
  have HKN : Hid (k < nn) := Lib.hid (by rw [← HK.out, ← HMM.out, ← HNN.out]; exact flat_lt HPN.out HQN.out)
  have HMM2 : Hid (mm ≤ 16) := Lib.hid (by have := HK.out; have := HKN.out; have := HN25.out; omega)
  have hw1 : IntKind.i64.wrap ((a : Int) * (n : Int)) = (mm : Int) := by rw [← Int.natCast_mul, HMM.out]; exact IntWalk.i64_in _ (by have := HMM2.out; omega)
  have hw2 : IntKind.i64.wrap ((mm : Int) + (b : Int)) = (k : Int) := by rw [← HK.out, Int.natCast_add]; exact IntWalk.i64_in _ (by have := HMM2.out; have := HKN.out; have := HK.out; have := HN25.out; omega)
  have hw3 : wrap64 ((a : Int) * (n : Int)) = (mm : Int) := by rw [← Int.natCast_mul, HMM.out]; exact IntWalk.wrap64_in _ (by have := HMM2.out; omega)
  have hw4 : wrap64 ((mm : Int) + (b : Int)) = (k : Int) := by rw [← HK.out, Int.natCast_add]; exact IntWalk.wrap64_in _ (by have := HMM2.out; have := HKN.out; have := HK.out; have := HN25.out; omega)
  have hkn : (k : Int) < nn := by have := HKN.out; omega
  have HIX : Hid (a * s.n + b = k) := Lib.hid (by rw [HN.out, HMM.out, HK.out])
  cases hway : s.ways a b with
  | nil =>
    have HE : Hid (s.stepErr a b = 5) := Lib.hid (by unfold GNet.stepErr; rw [if_neg HOK.out, Int.toNat_natCast, Int.toNat_natCast, if_pos hway])
    go_enter Tryd.func11, Tryd.ntmps11
    go_wp2_with fail
    refine (ref6In_any _ _ _ _).mono ?_
    rintro e w2 ⟨rfl, rfl⟩
    rw [HIp.out]
    go_wp2_with fail
    refine (ref6In_any _ _ _ _).mono ?_
    rintro e w2 ⟨rfl, rfl⟩
    rw [HIq.out]
    have HB := Lib.hid (Bx.start w [.int .i64 (n : Int), .slice sa n sc, .slice ka n kc, .slice ta n tc, .slice ga n gc, .slice ha n hc, .slice wa nn wc] [.int .i64 0, .slice none 0 0, .slice none 0 0, .slice none 0 0, .slice none 0 0, .slice none 0 0, .slice none 0 0] (gf s) HU.out 31 31)
    generalize ((w.alloc _).alloc _) = w2 at *
    have q0 : w2.cell? ⟨w.heap.size, 0, none⟩ = some (.int .i64 (n : Int)) := HB.out.ref.bB.cell 0
    have q6 : w2.cell? ⟨w.heap.size, 6, none⟩ = some (.slice wa nn wc) := HB.out.ref.bB.cell 6
    have HWY : Hid (Rd2 (In S w w.heap.size (w.heap.size + 1)) w2 (.slice wa nn wc) (flat s.n s.ways)) := Lib.hid (HB.out.at 6 rfl rfl)
    have HFL : Hid ((flat s.n s.ways).length = nn) := Lib.hid (by rw [flat_len, HN.out, HNN.out])
    obtain ⟨bG, oG, cG, u, ev, dr, hru, hrl⟩ := HWY.out.at (Chg.refl NoF w2) (fun _ _ h => h) (j := k) (by rw [HFL.out]; exact HKN.out)
    rw [HFL.out] at ev
    simp only [Value.slice.injEq] at ev
    obtain ⟨rfl, -, rfl⟩ := ev
    rw [← HIX.out, flat_at _ HPS.out HQS.out] at hru hrl
    rw [hway] at hru
    obtain ⟨ua, uc, rfl⟩ := hru.val
    have dr2 : w2.cell? ⟨bG, oG + k, none⟩ = some (.slice ua 0 uc) := dr
    clear hru hrl dr
    go_wp2_with (first | (refine wpList_plain rfl (fun K hK => wp_loadT aggGrant _ rfl w.heap.size [.int .i64 (n : Int), .slice sa n sc, .slice ka n kc, .slice ta n tc, .slice ga n gc, .slice ha n hc, .slice (some ⟨bG, oG, none⟩) nn wc] (by rfl) HB.out.ref.bB rfl ?_); refine hK _ _ ?_; clear hK) | (refine wpList_plain rfl (fun K hK => wp_storeT aggGrant _ _ rfl (w.heap.size + 1) [.int .i64 (n : Int), .slice sa n sc, .slice ka n kc, .slice ta n tc, .slice ga n gc, .slice ha n hc, .slice (some ⟨bG, oG, none⟩) nn wc] _ (by rfl) (by rfl) rfl HB.out.ref.bR rfl rfl ?_); intro wz hBz hcz; have HBZ := Lib.hid (HB.out.setR hBz hcz); clear hBz hcz; refine hK _ _ ?_; clear hK))
    (try simp only [Exit.inBlock, Exit.then]); refine bodyPost_ret (results_cell2 aggGrant rfl _ _ _ _ (by rfl) HBZ.out.ref.bR rfl) rfl ?_
    have h1 : s.step a b = s := by unfold GNet.step; rw [if_neg (by rw [HE.out]; decide)]
    rw [h1, HE.out]
    exact ⟨_, rfl, HBZ.out.ans⟩
  | cons x t =>
  have HE : Hid (s.stepErr a b = 0) := Lib.hid (by unfold GNet.stepErr; rw [if_neg HOK.out, Int.toNat_natCast, Int.toNat_natCast, if_neg (by rw [hway]; simp)])
  have HDO : Hid (s.step a b = (s.pop a b).hear a b x) := Lib.hid (by unfold GNet.step; rw [if_pos HE.out, Int.toNat_natCast, Int.toNat_natCast, hway]; rfl)
  obtain ⟨tl, HTL⟩ : ∃ tl, Hid (t.length = tl) := ⟨_, Lib.hid rfl⟩
  have HWL : Hid (tl < 1000) := Lib.hid (by have := HS.out.len a b HPS.out HQS.out; rw [hway] at this; simp at this; have := HTL.out; omega)
  have hz : (((tl : Int) + 1) == 0) = false := by rw [beq_eq_false_iff_ne]; omega
  have htl2 : (1 : Int) ≤ (tl : Int) + 1 := by omega
  have hz0 : (0 : Int) < (tl : Int) + 1 := by omega
  have HPOP : Hid ((gf s).set 6 (.r ((flat s.n s.ways).set k t)) = gf (s.pop a b)) := Lib.hid (by have := gf_pop s HQS.out (p := a); rw [HIX.out, hway] at this; exact this)
  have HWE := Lib.hid hway
  clear hway
  go_enter Tryd.func11, Tryd.ntmps11
  go_wp2_with fail
  refine (ref6In_any _ _ _ _).mono ?_
  rintro e w2 ⟨rfl, rfl⟩
  rw [HIp.out]
  go_wp2_with fail
  refine (ref6In_any _ _ _ _).mono ?_
  rintro e w2 ⟨rfl, rfl⟩
  rw [HIq.out]
  have HB := Lib.hid (Bx.start w [.int .i64 (n : Int), .slice sa n sc, .slice ka n kc, .slice ta n tc, .slice ga n gc, .slice ha n hc, .slice wa nn wc] [.int .i64 0, .slice none 0 0, .slice none 0 0, .slice none 0 0, .slice none 0 0, .slice none 0 0, .slice none 0 0] (gf s) HU.out 31 31)
  generalize ((w.alloc _).alloc _) = w2 at *
  have q0 : w2.cell? ⟨w.heap.size, 0, none⟩ = some (.int .i64 (n : Int)) := HB.out.ref.bB.cell 0
  have q6 : w2.cell? ⟨w.heap.size, 6, none⟩ = some (.slice wa nn wc) := HB.out.ref.bB.cell 6
  have HWY : Hid (Rd2 (In S w w.heap.size (w.heap.size + 1)) w2 (.slice wa nn wc) (flat s.n s.ways)) := Lib.hid (HB.out.at 6 rfl rfl)
  have HFL : Hid ((flat s.n s.ways).length = nn) := Lib.hid (by rw [flat_len, HN.out, HNN.out])
  obtain ⟨bG, oG, cG, u, ev, dr, hru, hrl⟩ := HWY.out.at (Chg.refl NoF w2) (fun _ _ h => h) (j := k) (by rw [HFL.out]; exact HKN.out)
  rw [HFL.out] at ev
  simp only [Value.slice.injEq] at ev
  obtain ⟨rfl, -, rfl⟩ := ev
  rw [← HIX.out, flat_at _ HPS.out HQS.out] at hru hrl
  rw [HWE.out] at hru
  obtain ⟨bU, oU, cU, rfl, hUS, hcap, hcU⟩ := hru.formC (by simp)
  have dU := hcU 0 (by simp)
  rw [show (x :: t).getD 0 0 = x from rfl, Nat.add_zero] at dU
  rw [show (x :: t).length = tl + 1 by rw [List.length_cons, HTL.out]] at dr hru hcap
  have HRU := Lib.hid hru
  obtain ⟨off, hoff, hoff2⟩ := tail_off2 bU oU cU tl hcap
  have HTAIL : Hid (Rd (In S w w.heap.size (w.heap.size + 1)) w2 (.slice (some ⟨bU, off, none⟩) tl (cU - 1)) t) := Lib.hid (Rd.tail2 hru HTL.out hoff2)
  have hcap2 : (tl : Int) + 1 ≤ cU := by omega
  have HUS := Lib.hid hUS
  clear hru hrl hcU hUS hoff2 hcap
  go_wp2_with fail
  refine wp_region_plan (Chg NoF w2) 12 [(0,true),(1,true),(2,true),(3,true),(4,true),(5,true),(6,true),(7,true),(8,true),(9,true),(10,false),(11,true),(12,false)] mixed (by kernel_rfl) (Chg.refl _ _).drew ?_
  simp only [planOps, List.map_cons, List.map_nil, List.getElem?_cons_zero, List.getElem?_cons_succ, Option.getD_some]
  generalize hops : List.toArray _ = ops
  iterate 10 (refine wpPlan_quiet (v := ?_) rfl (fun _ _ _ h => h) (by intro w1 hS; have s0 := hS.cell_some q6 (fun h => h); have s1 := hS.cell_some q0 (fun h => h); clear hS; go_simp; with_reducible rfl) ?_; (simp only [Act.put, List.setIfInBounds_toArray, List.set_cons_zero, List.set_cons_succ]))
  refine wpPlan_loud rfl (fun K hK => ?_)
  go_simp
  have HD1 := Lib.hid (HB.out.no ((Chg.refl NoF w2).drew))
  refine (rows_ref (In S w w.heap.size (w.heap.size + 1)) _ _ (flat s.n s.ways) k t _ (HWY.out.keep ((Chg.refl NoF w2).drew) (fun _ _ h => h)) (HTAIL.out.keep ((Chg.refl NoF w2).drew) (fun _ _ h => h)) (by rw [HTL.out]; have := HWL.out; omega) (by rw [HFL.out]; exact HKN.out) (by rw [HFL.out]; have := HN25.out; omega)).mono ?_
  rintro e x1 ⟨v1, rfl, hr1, hc1⟩
  have HL1 : Hid (((flat s.n s.ways).set k t).length = nn) := Lib.hid (by rw [List.length_set, HFL.out])
  obtain ⟨a1, c1, e1⟩ := hr1.val
  rw [HL1.out] at e1
  subst e1
  have HC1 : Hid (Chg NoF w2 x1) := Lib.hid (((Chg.refl NoF w2).drew).trans hc1)
  have HX1 := Lib.hid (HD1.out.told (f := .r ((flat s.n s.ways).set k t)) hr1)
  have HK1 := Lib.hid (HB.out.no HC1.out)
  refine hK _ _ (fun _ => HC1.out) ?_
  clear hK K hr1 hc1 HD1
  (try simp only [Act.put, List.setIfInBounds_toArray, List.set_cons_zero, List.set_cons_succ])
  (refine wpPlan_quiet (v := ?_) rfl (fun _ _ _ h => h) (by intro w1 hS; clear hS; go_simp; with_reducible rfl) ?_; (simp only [Act.put, List.setIfInBounds_toArray, List.set_cons_zero, List.set_cons_succ]))
  refine wpPlan_loud rfl (fun K hK => ?_)
  have sx : x1.cell? ⟨w.heap.size, 6, none⟩ = some (.slice (some ⟨bG, oG, none⟩) nn wc) := HK1.out.ref.bB.cell 6
  have zx := HK1.out.ref.bB.frozen 6
  go_simp
  refine hK _ _ (fun h => absurd rfl h) ?_
  clear hK K
  clear hops
  refine wpPlan_nil ?_
  obtain ⟨t2, HS2⟩ : ∃ zz, Hid (s.pop a b = zz) := ⟨_, Lib.hid rfl⟩
  have HN2 : Hid (t2.n = n) := Lib.hid (by rw [← HS2.out]; exact HN.out)
  have HB2 : Hid (Bx S w (x1.setCell ⟨w.heap.size, 6, none⟩ (.slice a1 nn c1)) w.heap.size (w.heap.size + 1) [.int .i64 (n : Int), .slice sa n sc, .slice ka n kc, .slice ta n tc, .slice ga n gc, .slice ha n hc, .slice a1 nn c1] [.int .i64 0, .slice none 0 0, .slice none 0 0, .slice none 0 0, .slice none 0 0, .slice none 0 0, .slice none 0 0] (gf t2)) := Lib.hid (by
    have h1 := HK1.out.set 6 _ _ HX1.out
    rw [HPOP.out] at h1
    rw [← HS2.out]
    exact h1)
  have HU5 : Hid (Rd (In S w w.heap.size (w.heap.size + 1)) (x1.setCell ⟨w.heap.size, 6, none⟩ (.slice a1 nn c1)) (.slice (some ⟨bU, oU, none⟩) (tl + 1) cU) (x :: t)) := Lib.hid ((HRU.out.keep HC1.out (fun _ _ h => h)).keep (setCell_chg x1 ⟨w.heap.size, 6, none⟩ _) (fun b hb e => (HK1.out.notB b hb).1 e))
  clear sx zx HX1 HC1 HK1 HB q0 q6 dr dU HWY HTAIL hoff hcap2 htl2 hz
  generalize x1.setCell _ _ = y1 at *
  have dU : y1.cell? ⟨bU, oU, none⟩ = some (.int .i64 x) := by
    obtain ⟨b1, o1, c1, e1, -, hc1⟩ := HU5.out.form (by simp)
    simp only [Value.slice.injEq, Option.some.injEq, Addr.mk.injEq, and_true] at e1
    obtain ⟨⟨rfl, rfl⟩, -, -⟩ := e1
    have := hc1 0 (by simp)
    rw [show (x :: t).getD 0 0 = x from rfl, Nat.add_zero] at this
    exact this
  by_cases hx : x = 0
  case pos =>
    have hxb : (x == 0) = true := by rw [beq_iff_eq]; exact hx
    obtain ⟨gv, HGV⟩ : ∃ zz, Hid (t2.gr b = zz) := ⟨_, Lib.hid rfl⟩
    have HG16 : Hid (gv < 16) := Lib.hid (by rw [← HGV.out, ← HS2.out]; exact sub16 HS.out.n4 (HS.out.gr b HQS.out))
    have HHE : Hid ((s.pop a b).hear a b x = ({ t2 with gr := put1 t2.gr b (gv ||| 2 ^ a) } : GNet).enter b) := Lib.hid (by unfold GNet.hear; rw [if_pos hx, HS2.out, HGV.out])
    clear hx
    have q4 : y1.cell? ⟨w.heap.size, 4, none⟩ = some (.slice ga n gc) := HB2.out.ref.bB.cell 4
    have HRF : Hid (Rd (In S w w.heap.size (w.heap.size + 1)) y1 (.slice ga n gc) (natL t2.n t2.gr)) := Lib.hid (HB2.out.at (f := .l (natL t2.n t2.gr)) 4 rfl rfl)
    obtain ⟨bF, oF, cF, eF, -, hcF⟩ := HRF.out.form (by rw [natL_len, HN2.out]; have := HQN.out; omega)
    rw [natL_len, HN2.out] at eF
    simp only [Value.slice.injEq] at eF
    obtain ⟨rfl, -, rfl⟩ := eF
    have dF := hcF b (by rw [natL_len]; exact (by rw [HN2.out]; exact HQN.out))
    rw [natL_at _ (show b < t2.n by rw [HN2.out]; exact HQN.out), HGV.out] at dF
    clear hcF
    have HWI := Lib.hid (fun wq => with_any gv a (by have := HG16.out; omega) (by have := HPN.out; have := H5.out; omega) wq)
    obtain ⟨g2, HV2⟩ : ∃ zz, Hid (withB gv a = zz) := ⟨_, Lib.hid rfl⟩
    rw [HV2.out] at HWI
    have HVO : Hid (g2 = gv ||| 2 ^ a) := Lib.hid (by rw [← HV2.out]; exact withB_or gv HG16.out a (by have := HPN.out; have := H5.out; omega))
    go_wp2_with fail
    refine wp_region_plan (Chg NoF y1) 12 [(0,true),(1,true),(2,true),(3,true),(4,true),(5,true),(6,true),(7,true),(8,true),(9,false),(10,false),(11,true),(12,false)] mixed (by kernel_rfl) (Chg.refl _ _).drew ?_
    simp only [planOps, List.map_cons, List.map_nil, List.getElem?_cons_zero, List.getElem?_cons_succ, Option.getD_some]
    generalize hops : List.toArray _ = ops
    iterate 9 (refine wpPlan_quiet (v := ?_) rfl (fun _ _ _ h => h) (by intro w1 hS; have s0 := hS.cell_some q4 (fun h => h); have s1 := hS.cell_some dF (fun h => h); clear hS; go_simp; with_reducible rfl) ?_; (simp only [Act.put, List.setIfInBounds_toArray, List.set_cons_zero, List.set_cons_succ]))
    refine wpPlan_loud rfl (fun K hK => ?_)
    go_simp
    refine (HWI.out _).mono ?_
    rintro e wq ⟨rfl, rfl⟩
    refine hK _ _ (fun _ => (Chg.refl NoF y1).drew) ?_
    clear hK K
    (try simp only [Act.put, List.setIfInBounds_toArray, List.set_cons_zero, List.set_cons_succ])
    refine wpPlan_loud rfl (fun K hK => ?_)
    go_simp
    have HD3 := Lib.hid (HB2.out.no ((Chg.refl NoF y1).drew))
    refine (set_ref (In S w w.heap.size (w.heap.size + 1)) _ (natL t2.n t2.gr) b ((g2 : Nat) : Int) _ (HRF.out.keep ((Chg.refl NoF y1).drew) (fun _ _ h => h)) (by rw [natL_len, HN2.out]; exact HQN.out) (by rw [natL_len, HN2.out]; have := H5.out; omega)).mono ?_
    rintro e x3 ⟨v3, rfl, hr3, hc3⟩
    have HL3 : Hid (((natL t2.n t2.gr).set b ((g2 : Nat) : Int)).length = n) := Lib.hid (by rw [List.length_set, natL_len, HN2.out])
    obtain ⟨a3, c3, e3⟩ := hr3.val
    rw [HL3.out] at e3
    subst e3
    have HC3 : Hid (Chg NoF y1 x3) := Lib.hid (((Chg.refl NoF y1).drew).trans hc3)
    have HX3 := Lib.hid (HD3.out.told (f := .l ((natL t2.n t2.gr).set b ((g2 : Nat) : Int))) hr3)
    have HK3 := Lib.hid (HB2.out.no HC3.out)
    refine hK _ _ (fun _ => HC3.out) ?_
    clear hK K hr3 hc3 HD3
    (try simp only [Act.put, List.setIfInBounds_toArray, List.set_cons_zero, List.set_cons_succ])
    (refine wpPlan_quiet (v := ?_) rfl (fun _ _ _ h => h) (by intro w1 hS; clear hS; go_simp; with_reducible rfl) ?_; (simp only [Act.put, List.setIfInBounds_toArray, List.set_cons_zero, List.set_cons_succ]))
    refine wpPlan_loud rfl (fun K hK => ?_)
    have sx : x3.cell? ⟨w.heap.size, 4, none⟩ = some (.slice (some ⟨bF, oF, none⟩) n gc) := HK3.out.ref.bB.cell 4
    have zx := HK3.out.ref.bB.frozen 4
    go_simp
    refine hK _ _ (fun h => absurd rfl h) ?_
    clear hK K
    clear hops
    refine wpPlan_nil ?_
    obtain ⟨t4, HS4⟩ : ∃ zz, Hid ({ t2 with gr := put1 t2.gr b g2 } = zz) := ⟨_, Lib.hid rfl⟩
    have HN4 : Hid (t4.n = n) := Lib.hid (by rw [← HS4.out]; exact HN2.out)
    have HB4 : Hid (Bx S w (x3.setCell ⟨w.heap.size, 4, none⟩ (.slice a3 n c3)) w.heap.size (w.heap.size + 1) [.int .i64 (n : Int), .slice sa n sc, .slice ka n kc, .slice ta n tc, .slice a3 n c3, .slice ha n hc, .slice a1 nn c1] [.int .i64 0, .slice none 0 0, .slice none 0 0, .slice none 0 0, .slice none 0 0, .slice none 0 0, .slice none 0 0] (gf t4)) := Lib.hid (by
      have h1 := HK3.out.set 4 _ _ HX3.out
      rw [gf_gr t2 b g2] at h1
      rw [← HS4.out]
      exact h1)
    clear sx zx HX3 HC3 HK3 HB2 q4 dF HRF HWI dU hz0 hxb
    generalize x3.setCell _ _ = y3 at *
    have HBS : Hid (b < t4.n) := Lib.hid (by rw [HN4.out]; exact HQN.out)
    have HGL : Hid (t4.gr b < 2 ^ t4.n) := Lib.hid (by rw [← HS4.out]; show put1 t2.gr b g2 b < 2 ^ t2.n; rw [put1_self, HVO.out, ← HGV.out, ← HS2.out]; exact or_lt (HS.out.gr b HQS.out) HPS.out)
    have HFIN : Hid (s.step a b = t4.enter b) := Lib.hid (by rw [HDO.out, HHE.out, ← HS4.out, HVO.out])
    go_wp2_with (refine wpList_plain rfl (fun K hK => wp_loadT aggGrant _ rfl w.heap.size [.int .i64 (n : Int), .slice sa n sc, .slice ka n kc, .slice ta n tc, .slice a3 n c3, .slice ha n hc, .slice a1 nn c1] (by rfl) HB4.out.ref.bB rfl ?_); refine hK _ _ ?_; clear hK)
    refine (enterGrant_ref (In S w w.heap.size (w.heap.size + 1)) _ _ t4 HB4.out.fld (by rw [HN4.out]; exact H5.out) b HBS.out HGL.out).mono ?_
    rintro e w8 ⟨v8, rfl, us8, rfl, hr8, hc8⟩
    have HR8 := Lib.hid (HB4.out.toldS hr8)
    have HB8 := Lib.hid (HB4.out.no hc8)
    clear hr8 hc8
    go_wp2_with (refine wpList_plain rfl (fun K hK => wp_storeT aggGrant _ _ rfl (w.heap.size + 1) us8 _ (by rfl) (by rfl) HR8.out.len HB8.out.ref.bR rfl HR8.out.one ?_); intro w9 hB9 hc9; have HB9 := Lib.hid hB9; have HC9 : Hid (Chg NoF w w9) := Lib.hid (HB8.out.ref.chg.trans2 hc9 fun i _ hi => .inr (by have hi : i = w.heap.size + 1 := hi; omega)); have HR9 : Hid (RdS (More S w) w9 us8 (gf (t4.enter b))) := Lib.hid ((HR8.out.keep hc9 (fun b hb e => (HB8.out.notB b hb).2 e)).mono (fun b _ hb => hb.elim (fun h => .inl h.1) (fun h => .inr h.1))); clear hB9 hc9; refine hK _ _ ?_; clear hK)
    (try simp only [Exit.inBlock, Exit.then]); refine bodyPost_ret (results_cell2 aggGrant rfl _ _ _ _ (by rfl) HB9.out HR8.out.len) rfl ?_
    exact ⟨_, by rw [HE.out]; rfl, us8, rfl, by rw [HFIN.out]; exact HR9.out, HC9.out⟩
  case neg =>
  have hxb : (x == 0) = false := by rw [beq_eq_false_iff_ne]; exact hx
  have HX0 := Lib.hid hx
  clear hx
  obtain ⟨ck, HCK⟩ : ∃ zz, Hid (t2.ck b = zz) := ⟨_, Lib.hid rfl⟩
  have q2 : y1.cell? ⟨w.heap.size, 2, none⟩ = some (.slice ka n kc) := HB2.out.ref.bB.cell 2
  have HRK : Hid (Rd (In S w w.heap.size (w.heap.size + 1)) y1 (.slice ka n kc) (line t2.n t2.ck)) := Lib.hid (HB2.out.at (f := .l (line t2.n t2.ck)) 2 rfl rfl)
  obtain ⟨bK, oK, cK, eK, -, hcK⟩ := HRK.out.form (by rw [line_len, HN2.out]; have := HQN.out; omega)
  rw [line_len, HN2.out] at eK
  simp only [Value.slice.injEq] at eK
  obtain ⟨rfl, -, rfl⟩ := eK
  have dK := hcK b (by rw [line_len]; exact (by rw [HN2.out]; exact HQN.out))
  rw [line_at _ (show b < t2.n by rw [HN2.out]; exact HQN.out), HCK.out] at dK
  clear hcK
  go_wp2_with fail
  refine wp_region_plan (Chg NoF y1) 9 [(0,true),(1,true),(2,true),(3,true),(4,true),(5,true),(6,true),(7,true),(8,true)] mixed (by kernel_rfl) (Chg.refl _ _).drew ?_
  simp only [planOps, List.map_cons, List.map_nil, List.getElem?_cons_zero, List.getElem?_cons_succ, Option.getD_some]
  generalize hops : List.toArray _ = ops
  iterate 9 (refine wpPlan_quiet (v := ?_) rfl (fun _ _ _ h => h) (by intro w1 hS; have s0 := hS.cell_some dU (fun h => h); have s1 := hS.cell_some q2 (fun h => h); have s2 := hS.cell_some dK (fun h => h); clear hS; go_simp; with_reducible rfl) ?_; (simp only [Act.put, List.setIfInBounds_toArray, List.set_cons_zero, List.set_cons_succ]))
  clear hops
  refine wpPlan_nil ?_
  have HBD := Lib.hid (HB2.out.no ((Chg.refl NoF y1).drew))
  have HUD : Hid (Rd (In S w w.heap.size (w.heap.size + 1)) y1.drew (.slice (some ⟨bU, oU, none⟩) (tl + 1) cU) (x :: t)) := Lib.hid (HU5.out.keep ((Chg.refl NoF y1).drew) (fun _ _ h => h))
  clear q2 dK dU HU5 HRK HB2
  generalize y1.drew = wd at *
  obtain ⟨sz, HSZ⟩ : ∃ zz, Hid ({ t2 with ck := put1 t2.ck b (max ck x) } = zz) := ⟨_, Lib.hid rfl⟩
  have HNZ : Hid (sz.n = n) := Lib.hid (by rw [← HSZ.out]; exact HN2.out)
  go_upto_if 78 with fail
  go_cut [8] (fun v wx => v = .slice (some ⟨bU, oU, none⟩) (tl + 1) cU ∧ ∃ (s1 : Option Addr) (s2 : Nat) (k1 : Option Addr) (k2 : Nat) (m1 : Option Addr) (m2 : Nat) (g1 : Option Addr) (g2 : Nat) (h1 : Option Addr) (h2 : Nat) (w1 : Option Addr) (w2 : Nat), Hid (Bx S w wx w.heap.size (w.heap.size + 1) [.int .i64 (n : Int), .slice s1 n s2, .slice k1 n k2, .slice m1 n m2, .slice g1 n g2, .slice h1 n h2, .slice w1 nn w2] [.int .i64 0, .slice none 0 0, .slice none 0 0, .slice none 0 0, .slice none 0 0, .slice none 0 0, .slice none 0 0] (gf sz) ∧ Rd (In S w w.heap.size (w.heap.size + 1)) wx (.slice (some ⟨bU, oU, none⟩) (tl + 1) cU) (x :: t)))
  case first =>
    have dU : wd.cell? ⟨bU, oU, none⟩ = some (.int .i64 x) := by
      obtain ⟨b1, o1, c1, e1, -, hc1⟩ := HUD.out.form (by simp)
      simp only [Value.slice.injEq, Option.some.injEq, Addr.mk.injEq, and_true] at e1
      obtain ⟨⟨rfl, rfl⟩, -, -⟩ := e1
      have := hc1 0 (by simp)
      rw [show (x :: t).getD 0 0 = x from rfl, Nat.add_zero] at this
      exact this
    have q2 : wd.cell? ⟨w.heap.size, 2, none⟩ = some (.slice (some ⟨bK, oK, none⟩) n kc) := HBD.out.ref.bB.cell 2
    by_cases hmx : ck < x
    · have hd : decide (ck < x) = true := decide_eq_true hmx
      have HMX : Hid (max ck x = x) := Lib.hid (by omega)
      have HRF : Hid (Rd (In S w w.heap.size (w.heap.size + 1)) wd (.slice (some ⟨bK, oK, none⟩) n kc) (line t2.n t2.ck)) := Lib.hid (HBD.out.at (f := .l (line t2.n t2.ck)) 2 rfl rfl)
      go_wp2_with fail
      refine wp_region_plan (Chg NoF wd) 8 [(0,true),(1,true),(2,true),(3,true),(4,true),(5,true),(6,false),(7,true),(8,false)] mixed (by kernel_rfl) (Chg.refl _ _).drew ?_
      simp only [planOps, List.map_cons, List.map_nil, List.getElem?_cons_zero, List.getElem?_cons_succ, Option.getD_some]
      generalize hops : List.toArray _ = ops
      iterate 6 (refine wpPlan_quiet (v := ?_) rfl (fun _ _ _ h => h) (by intro w1 hS; have s0 := hS.cell_some q2 (fun h => h); have s1 := hS.cell_some dU (fun h => h); clear hS; go_simp; with_reducible rfl) ?_; (simp only [Act.put, List.setIfInBounds_toArray, List.set_cons_zero, List.set_cons_succ]))
      refine wpPlan_loud rfl (fun K hK => ?_)
      go_simp
      have HD5 := Lib.hid (HBD.out.no ((Chg.refl NoF wd).drew))
      refine (set_ref (In S w w.heap.size (w.heap.size + 1)) _ (line t2.n t2.ck) b x _ (HRF.out.keep ((Chg.refl NoF wd).drew) (fun _ _ h => h)) (by rw [line_len, HN2.out]; exact HQN.out) (by rw [line_len, HN2.out]; have := H5.out; omega)).mono ?_
      rintro e x5 ⟨v5, rfl, hr5, hc5⟩
      have HL5 : Hid (((line t2.n t2.ck).set b x).length = n) := Lib.hid (by rw [List.length_set, line_len, HN2.out])
      obtain ⟨a5, c5, e5⟩ := hr5.val
      rw [HL5.out] at e5
      subst e5
      have HC5 : Hid (Chg NoF wd x5) := Lib.hid (((Chg.refl NoF wd).drew).trans hc5)
      have HX5 := Lib.hid (HD5.out.told (f := .l ((line t2.n t2.ck).set b x)) hr5)
      have HK5 := Lib.hid (HBD.out.no HC5.out)
      refine hK _ _ (fun _ => HC5.out) ?_
      clear hK K hr5 hc5 HD5
      (try simp only [Act.put, List.setIfInBounds_toArray, List.set_cons_zero, List.set_cons_succ])
      (refine wpPlan_quiet (v := ?_) rfl (fun _ _ _ h => h) (by intro w1 hS; clear hS; go_simp; with_reducible rfl) ?_; (simp only [Act.put, List.setIfInBounds_toArray, List.set_cons_zero, List.set_cons_succ]))
      refine wpPlan_loud rfl (fun K hK => ?_)
      have sx : x5.cell? ⟨w.heap.size, 2, none⟩ = some (.slice (some ⟨bK, oK, none⟩) n kc) := HK5.out.ref.bB.cell 2
      have zx := HK5.out.ref.bB.frozen 2
      go_simp
      refine hK _ _ (fun h => absurd rfl h) ?_
      clear hK K
      clear hops
      refine wpPlan_nil ?_
      obtain ⟨t6, HS6⟩ : ∃ zz, Hid ({ t2 with ck := put1 t2.ck b x } = zz) := ⟨_, Lib.hid rfl⟩
      have HN6 : Hid (t6.n = n) := Lib.hid (by rw [← HS6.out]; exact HN2.out)
      have HB6 : Hid (Bx S w (x5.setCell ⟨w.heap.size, 2, none⟩ (.slice a5 n c5)) w.heap.size (w.heap.size + 1) [.int .i64 (n : Int), .slice sa n sc, .slice a5 n c5, .slice ta n tc, .slice ga n gc, .slice ha n hc, .slice a1 nn c1] [.int .i64 0, .slice none 0 0, .slice none 0 0, .slice none 0 0, .slice none 0 0, .slice none 0 0, .slice none 0 0] (gf t6)) := Lib.hid (by
        have h1 := HK5.out.set 2 _ _ HX5.out
        rw [gf_ck] at h1
        rw [← HS6.out]
        exact h1)
      have HU6 : Hid (Rd (In S w w.heap.size (w.heap.size + 1)) (x5.setCell ⟨w.heap.size, 2, none⟩ (.slice a5 n c5)) (.slice (some ⟨bU, oU, none⟩) (tl + 1) cU) (x :: t)) := Lib.hid ((HUD.out.keep HC5.out (fun _ _ h => h)).keep (setCell_chg x5 ⟨w.heap.size, 2, none⟩ _) (fun b hb e => (HK5.out.notB b hb).1 e))
      clear sx zx HX5 HC5 HK5 HBD q2 dU HRF hd
      generalize x5.setCell _ _ = y5 at *
      have HBF : Hid (Bx S w y5 w.heap.size (w.heap.size + 1) [.int .i64 (n : Int), .slice sa n sc, .slice a5 n c5, .slice ta n tc, .slice ga n gc, .slice ha n hc, .slice a1 nn c1] [.int .i64 0, .slice none 0 0, .slice none 0 0, .slice none 0 0, .slice none 0 0, .slice none 0 0, .slice none 0 0] (gf sz)) := Lib.hid (by rw [← HSZ.out, HMX.out, HS6.out]; exact HB6.out)
      go_wp2_with fail
      go_meet
      case rel => exact ⟨rfl, _, _, _, _, _, _, _, _, _, _, _, _, Lib.hid ⟨HBF.out, HU6.out⟩⟩
    · have hd : decide (ck < x) = false := decide_eq_false hmx
      have HBF : Hid (Bx S w wd w.heap.size (w.heap.size + 1) [.int .i64 (n : Int), .slice sa n sc, .slice (some ⟨bK, oK, none⟩) n kc, .slice ta n tc, .slice ga n gc, .slice ha n hc, .slice a1 nn c1] [.int .i64 0, .slice none 0 0, .slice none 0 0, .slice none 0 0, .slice none 0 0, .slice none 0 0, .slice none 0 0] (gf sz)) := Lib.hid (by
        have e : sz = t2 := by
          rw [← HSZ.out]
          have e2 : put1 t2.ck b (max ck x) = t2.ck := by
            funext q
            by_cases eq : q = b
            · subst eq; rw [put1_self, HCK.out]; omega
            · rw [put1_ne _ _ eq]
          rw [e2]
        rw [e]; exact HBD.out)
      go_wp2_with fail
      go_meet
      case rel => exact ⟨rfl, _, _, _, _, _, _, _, _, _, _, _, _, Lib.hid ⟨HBF.out, HUD.out⟩⟩
  case rest =>
  obtain ⟨rfl, s1, s2, k1, k2, m1, m2, g1, g2, h1, h2, w1, w2, HBU⟩ := hcut
  have HBY : Hid (Bx S w wc w.heap.size (w.heap.size + 1) [.int .i64 (n : Int), .slice s1 n s2, .slice k1 n k2, .slice m1 n m2, .slice g1 n g2, .slice h1 n h2, .slice w1 nn w2] [.int .i64 0, .slice none 0 0, .slice none 0 0, .slice none 0 0, .slice none 0 0, .slice none 0 0, .slice none 0 0] (gf sz)) := Lib.hid HBU.out.1
  have HUY : Hid (Rd (In S w w.heap.size (w.heap.size + 1)) wc (.slice (some ⟨bU, oU, none⟩) (tl + 1) cU) (x :: t)) := Lib.hid HBU.out.2
  clear HBU HBD HUD
  have HZP : Hid (sz.st b = s.st b ∧ sz.tm b = s.tm b ∧ sz.wt b = s.wt b ∧ sz.ways b a = (s.pop a b).ways b a) := Lib.hid (by rw [← HSZ.out, ← HS2.out]; exact ⟨rfl, rfl, rfl, rfl⟩)
  have HSE : Hid (sz = { s.pop a b with ck := put1 (s.pop a b).ck b (max ((s.pop a b).ck b) x) }) := Lib.hid (by rw [← HSZ.out, ← HCK.out, HS2.out])
  obtain ⟨sv, HSV⟩ : ∃ zz, Hid (sz.st b = zz) := ⟨_, Lib.hid rfl⟩
  obtain ⟨tv, HTV⟩ : ∃ zz, Hid (sz.tm b = zz) := ⟨_, Lib.hid rfl⟩
  have q1 : wc.cell? ⟨w.heap.size, 1, none⟩ = some (.slice s1 n s2) := HBY.out.ref.bB.cell 1
  have q3 : wc.cell? ⟨w.heap.size, 3, none⟩ = some (.slice m1 n m2) := HBY.out.ref.bB.cell 3
  have dU : wc.cell? ⟨bU, oU, none⟩ = some (.int .i64 x) := by
    obtain ⟨b1, o1, c1, e1, -, hc1⟩ := HUY.out.form (by simp)
    simp only [Value.slice.injEq, Option.some.injEq, Addr.mk.injEq, and_true] at e1
    obtain ⟨⟨rfl, rfl⟩, -, -⟩ := e1
    have := hc1 0 (by simp)
    rw [show (x :: t).getD 0 0 = x from rfl, Nat.add_zero] at this
    exact this
  have HRS : Hid (Rd (In S w w.heap.size (w.heap.size + 1)) wc (.slice s1 n s2) (line sz.n sz.st)) := Lib.hid (HBY.out.at (f := .l (line sz.n sz.st)) 1 rfl rfl)
  obtain ⟨bS, oS, cS, eS, -, hcS⟩ := HRS.out.form (by rw [line_len, HNZ.out]; have := HQN.out; omega)
  rw [line_len, HNZ.out] at eS
  simp only [Value.slice.injEq] at eS
  obtain ⟨rfl, -, rfl⟩ := eS
  have dS := hcS b (by rw [line_len]; exact (by rw [HNZ.out]; exact HQN.out))
  rw [line_at _ (show b < sz.n by rw [HNZ.out]; exact HQN.out), HSV.out] at dS
  clear hcS
  have HRM : Hid (Rd (In S w w.heap.size (w.heap.size + 1)) wc (.slice m1 n m2) (line sz.n sz.tm)) := Lib.hid (HBY.out.at (f := .l (line sz.n sz.tm)) 3 rfl rfl)
  obtain ⟨bM, oM, cM, eM, -, hcM⟩ := HRM.out.form (by rw [line_len, HNZ.out]; have := HQN.out; omega)
  rw [line_len, HNZ.out] at eM
  simp only [Value.slice.injEq] at eM
  obtain ⟨rfl, -, rfl⟩ := eM
  have dM := hcM b (by rw [line_len]; exact (by rw [HNZ.out]; exact HQN.out))
  rw [line_at _ (show b < sz.n by rw [HNZ.out]; exact HQN.out), HTV.out] at dM
  clear hcM
  have HMI : Hid ((s.pop a b).mine b a x ↔ (tv < x ∨ (tv = x ∧ b < a))) := Lib.hid (by unfold GNet.mine; rw [show (s.pop a b).tm b = tv by rw [← HTV.out]; exact HZP.out.2.1.symm])
  have HSP : Hid ((s.pop a b).st b = sv) := Lib.hid (by rw [← HSV.out]; exact HZP.out.1.symm)
  have HCASE : (sv = 2 ∨ (¬ sv = 2 ∧ sv = 1 ∧ tv < x) ∨ (¬ sv = 2 ∧ sv = 1 ∧ ¬ tv < x ∧ tv = x ∧ b < a)) ∨ ((¬ sv = 2 ∧ ¬ sv = 1) ∨ (¬ sv = 2 ∧ sv = 1 ∧ ¬ tv < x ∧ ¬ tv = x) ∨ (¬ sv = 2 ∧ sv = 1 ∧ ¬ tv < x ∧ tv = x ∧ ¬ b < a)) := by omega
  rcases HCASE with hyes | hno
  · rcases hyes with h2 | ⟨h2, h1, h3⟩ | ⟨h2, h1, h3, h4, h5⟩
    · skip
      have HHE : Hid ((s.pop a b).hear a b x = { sz with wt := put1 sz.wt b (sz.wt b ||| 2 ^ a) }) := Lib.hid (by unfold GNet.hear; rw [if_neg HX0.out, if_pos (by rw [HSP.out, HMI.out]; omega), HSE.out])
      have e2 : (sv == 2) = true := by rw [beq_iff_eq]; exact h2
      clear h2
      obtain ⟨wv, HWV⟩ : ∃ zz, Hid (sz.wt b = zz) := ⟨_, Lib.hid rfl⟩
      have HW16 : Hid (wv < 16) := Lib.hid (by rw [← HWV.out, HZP.out.2.2.1]; exact sub16 HS.out.n4 (HS.out.wt b HQS.out))
      have q5 : wc.cell? ⟨w.heap.size, 5, none⟩ = some (.slice h1 n h2) := HBY.out.ref.bB.cell 5
      have HRF : Hid (Rd (In S w w.heap.size (w.heap.size + 1)) wc (.slice h1 n h2) (natL sz.n sz.wt)) := Lib.hid (HBY.out.at (f := .l (natL sz.n sz.wt)) 5 rfl rfl)
      obtain ⟨bF, oF, cF, eF, -, hcF⟩ := HRF.out.form (by rw [natL_len, HNZ.out]; have := HQN.out; omega)
      rw [natL_len, HNZ.out] at eF
      simp only [Value.slice.injEq] at eF
      obtain ⟨rfl, -, rfl⟩ := eF
      have dF := hcF b (by rw [natL_len]; exact (by rw [HNZ.out]; exact HQN.out))
      rw [natL_at _ (show b < sz.n by rw [HNZ.out]; exact HQN.out), HWV.out] at dF
      clear hcF
      have HWI := Lib.hid (fun wq => with_any wv a (by have := HW16.out; omega) (by have := HPN.out; have := H5.out; omega) wq)
      obtain ⟨w6, HV2⟩ : ∃ zz, Hid (withB wv a = zz) := ⟨_, Lib.hid rfl⟩
      rw [HV2.out] at HWI
      have HVO : Hid (w6 = wv ||| 2 ^ a) := Lib.hid (by rw [← HV2.out]; exact withB_or wv HW16.out a (by have := HPN.out; have := H5.out; omega))
      go_wp2_with fail
      clear q1 q3 dU dS dM e2
      refine wp_region_plan (Chg NoF wc) 12 [(0,true),(1,true),(2,true),(3,true),(4,true),(5,true),(6,true),(7,true),(8,true),(9,false),(10,false),(11,true),(12,false)] mixed (by kernel_rfl) (Chg.refl _ _).drew ?_
      simp only [planOps, List.map_cons, List.map_nil, List.getElem?_cons_zero, List.getElem?_cons_succ, Option.getD_some]
      generalize hops : List.toArray _ = ops
      iterate 9 (refine wpPlan_quiet (v := ?_) rfl (fun _ _ _ h => h) (by intro w1 hS; have s0 := hS.cell_some q5 (fun h => h); have s1 := hS.cell_some dF (fun h => h); clear hS; go_simp; with_reducible rfl) ?_; (simp only [Act.put, List.setIfInBounds_toArray, List.set_cons_zero, List.set_cons_succ]))
      refine wpPlan_loud rfl (fun K hK => ?_)
      go_simp
      refine (HWI.out _).mono ?_
      rintro e wq ⟨rfl, rfl⟩
      refine hK _ _ (fun _ => (Chg.refl NoF wc).drew) ?_
      clear hK K
      (try simp only [Act.put, List.setIfInBounds_toArray, List.set_cons_zero, List.set_cons_succ])
      refine wpPlan_loud rfl (fun K hK => ?_)
      go_simp
      have HD7 := Lib.hid (HBY.out.no ((Chg.refl NoF wc).drew))
      refine (set_ref (In S w w.heap.size (w.heap.size + 1)) _ (natL sz.n sz.wt) b ((w6 : Nat) : Int) _ (HRF.out.keep ((Chg.refl NoF wc).drew) (fun _ _ h => h)) (by rw [natL_len, HNZ.out]; exact HQN.out) (by rw [natL_len, HNZ.out]; have := H5.out; omega)).mono ?_
      rintro e x7 ⟨v7, rfl, hr7, hc7⟩
      have HL7 : Hid (((natL sz.n sz.wt).set b ((w6 : Nat) : Int)).length = n) := Lib.hid (by rw [List.length_set, natL_len, HNZ.out])
      obtain ⟨a7, c7, e7⟩ := hr7.val
      rw [HL7.out] at e7
      subst e7
      have HC7 : Hid (Chg NoF wc x7) := Lib.hid (((Chg.refl NoF wc).drew).trans hc7)
      have HX7 := Lib.hid (HD7.out.told (f := .l ((natL sz.n sz.wt).set b ((w6 : Nat) : Int))) hr7)
      have HK7 := Lib.hid (HBY.out.no HC7.out)
      refine hK _ _ (fun _ => HC7.out) ?_
      clear hK K hr7 hc7 HD7
      (try simp only [Act.put, List.setIfInBounds_toArray, List.set_cons_zero, List.set_cons_succ])
      (refine wpPlan_quiet (v := ?_) rfl (fun _ _ _ h => h) (by intro w1 hS; clear hS; go_simp; with_reducible rfl) ?_; (simp only [Act.put, List.setIfInBounds_toArray, List.set_cons_zero, List.set_cons_succ]))
      refine wpPlan_loud rfl (fun K hK => ?_)
      have sx : x7.cell? ⟨w.heap.size, 5, none⟩ = some (.slice (some ⟨bF, oF, none⟩) n h2) := HK7.out.ref.bB.cell 5
      have zx := HK7.out.ref.bB.frozen 5
      go_simp
      refine hK _ _ (fun h => absurd rfl h) ?_
      clear hK K
      clear hops
      refine wpPlan_nil ?_
      obtain ⟨t8, HS8⟩ : ∃ zz, Hid ({ sz with wt := put1 sz.wt b w6 } = zz) := ⟨_, Lib.hid rfl⟩
      have HN8 : Hid (t8.n = n) := Lib.hid (by rw [← HS8.out]; exact HNZ.out)
      have HB8 : Hid (Bx S w (x7.setCell ⟨w.heap.size, 5, none⟩ (.slice a7 n c7)) w.heap.size (w.heap.size + 1) [.int .i64 (n : Int), .slice (some ⟨bS, oS, none⟩) n s2, .slice k1 n k2, .slice (some ⟨bM, oM, none⟩) n m2, .slice g1 n g2, .slice a7 n c7, .slice w1 nn w2] [.int .i64 0, .slice none 0 0, .slice none 0 0, .slice none 0 0, .slice none 0 0, .slice none 0 0, .slice none 0 0] (gf t8)) := Lib.hid (by
        have h1 := HK7.out.set 5 _ _ HX7.out
        rw [gf_wt sz b w6] at h1
        rw [← HS8.out]
        exact h1)
      clear sx zx HX7 HC7 HK7 HBY q5 dF HRF HWI 
      generalize x7.setCell _ _ = y7 at *
      have HFIN : Hid (s.step a b = t8) := Lib.hid (by rw [HDO.out, HHE.out, ← HS8.out, HVO.out, HWV.out])
      go_wp2_with (first | (refine wpList_plain rfl (fun K hK => wp_loadT aggGrant _ rfl w.heap.size [.int .i64 (n : Int), .slice (some ⟨bS, oS, none⟩) n s2, .slice k1 n k2, .slice (some ⟨bM, oM, none⟩) n m2, .slice g1 n g2, .slice a7 n c7, .slice w1 nn w2] (by rfl) HB8.out.ref.bB rfl ?_); refine hK _ _ ?_; clear hK) | (refine wpList_plain rfl (fun K hK => wp_storeT aggGrant _ _ rfl (w.heap.size + 1) [.int .i64 (n : Int), .slice (some ⟨bS, oS, none⟩) n s2, .slice k1 n k2, .slice (some ⟨bM, oM, none⟩) n m2, .slice g1 n g2, .slice a7 n c7, .slice w1 nn w2] _ (by rfl) (by rfl) rfl HB8.out.ref.bR rfl rfl ?_); intro wz hBz hcz; have HBW := Lib.hid (HB8.out.setR hBz hcz); clear hBz hcz; refine hK _ _ ?_; clear hK))
      (try simp only [Exit.inBlock, Exit.then]); refine bodyPost_ret (results_cell2 aggGrant rfl _ _ _ _ (by rfl) HBW.out.ref.bR rfl) rfl ?_
      rw [HE.out, HFIN.out]
      exact ⟨_, rfl, HBW.out.ans⟩
    · skip
      have HHE : Hid ((s.pop a b).hear a b x = { sz with wt := put1 sz.wt b (sz.wt b ||| 2 ^ a) }) := Lib.hid (by unfold GNet.hear; rw [if_neg HX0.out, if_pos (by rw [HSP.out, HMI.out]; omega), HSE.out])
      have e2 : (sv == 2) = false := by rw [beq_eq_false_iff_ne]; exact h2
      have e1 : (sv == 1) = true := by rw [beq_iff_eq]; exact h1
      have e3 : decide (tv < x) = true := decide_eq_true h3
      clear h2 h1 h3
      obtain ⟨wv, HWV⟩ : ∃ zz, Hid (sz.wt b = zz) := ⟨_, Lib.hid rfl⟩
      have HW16 : Hid (wv < 16) := Lib.hid (by rw [← HWV.out, HZP.out.2.2.1]; exact sub16 HS.out.n4 (HS.out.wt b HQS.out))
      have q5 : wc.cell? ⟨w.heap.size, 5, none⟩ = some (.slice h1 n h2) := HBY.out.ref.bB.cell 5
      have HRF : Hid (Rd (In S w w.heap.size (w.heap.size + 1)) wc (.slice h1 n h2) (natL sz.n sz.wt)) := Lib.hid (HBY.out.at (f := .l (natL sz.n sz.wt)) 5 rfl rfl)
      obtain ⟨bF, oF, cF, eF, -, hcF⟩ := HRF.out.form (by rw [natL_len, HNZ.out]; have := HQN.out; omega)
      rw [natL_len, HNZ.out] at eF
      simp only [Value.slice.injEq] at eF
      obtain ⟨rfl, -, rfl⟩ := eF
      have dF := hcF b (by rw [natL_len]; exact (by rw [HNZ.out]; exact HQN.out))
      rw [natL_at _ (show b < sz.n by rw [HNZ.out]; exact HQN.out), HWV.out] at dF
      clear hcF
      have HWI := Lib.hid (fun wq => with_any wv a (by have := HW16.out; omega) (by have := HPN.out; have := H5.out; omega) wq)
      obtain ⟨w6, HV2⟩ : ∃ zz, Hid (withB wv a = zz) := ⟨_, Lib.hid rfl⟩
      rw [HV2.out] at HWI
      have HVO : Hid (w6 = wv ||| 2 ^ a) := Lib.hid (by rw [← HV2.out]; exact withB_or wv HW16.out a (by have := HPN.out; have := H5.out; omega))
      go_wp2_with fail
      clear q1 q3 dU dS dM e2 e1 e3
      refine wp_region_plan (Chg NoF wc) 12 [(0,true),(1,true),(2,true),(3,true),(4,true),(5,true),(6,true),(7,true),(8,true),(9,false),(10,false),(11,true),(12,false)] mixed (by kernel_rfl) (Chg.refl _ _).drew ?_
      simp only [planOps, List.map_cons, List.map_nil, List.getElem?_cons_zero, List.getElem?_cons_succ, Option.getD_some]
      generalize hops : List.toArray _ = ops
      iterate 9 (refine wpPlan_quiet (v := ?_) rfl (fun _ _ _ h => h) (by intro w1 hS; have s0 := hS.cell_some q5 (fun h => h); have s1 := hS.cell_some dF (fun h => h); clear hS; go_simp; with_reducible rfl) ?_; (simp only [Act.put, List.setIfInBounds_toArray, List.set_cons_zero, List.set_cons_succ]))
      refine wpPlan_loud rfl (fun K hK => ?_)
      go_simp
      refine (HWI.out _).mono ?_
      rintro e wq ⟨rfl, rfl⟩
      refine hK _ _ (fun _ => (Chg.refl NoF wc).drew) ?_
      clear hK K
      (try simp only [Act.put, List.setIfInBounds_toArray, List.set_cons_zero, List.set_cons_succ])
      refine wpPlan_loud rfl (fun K hK => ?_)
      go_simp
      have HD9 := Lib.hid (HBY.out.no ((Chg.refl NoF wc).drew))
      refine (set_ref (In S w w.heap.size (w.heap.size + 1)) _ (natL sz.n sz.wt) b ((w6 : Nat) : Int) _ (HRF.out.keep ((Chg.refl NoF wc).drew) (fun _ _ h => h)) (by rw [natL_len, HNZ.out]; exact HQN.out) (by rw [natL_len, HNZ.out]; have := H5.out; omega)).mono ?_
      rintro e x9 ⟨v9, rfl, hr9, hc9⟩
      have HL9 : Hid (((natL sz.n sz.wt).set b ((w6 : Nat) : Int)).length = n) := Lib.hid (by rw [List.length_set, natL_len, HNZ.out])
      obtain ⟨a9, c9, e9⟩ := hr9.val
      rw [HL9.out] at e9
      subst e9
      have HC9 : Hid (Chg NoF wc x9) := Lib.hid (((Chg.refl NoF wc).drew).trans hc9)
      have HX9 := Lib.hid (HD9.out.told (f := .l ((natL sz.n sz.wt).set b ((w6 : Nat) : Int))) hr9)
      have HK9 := Lib.hid (HBY.out.no HC9.out)
      refine hK _ _ (fun _ => HC9.out) ?_
      clear hK K hr9 hc9 HD9
      (try simp only [Act.put, List.setIfInBounds_toArray, List.set_cons_zero, List.set_cons_succ])
      (refine wpPlan_quiet (v := ?_) rfl (fun _ _ _ h => h) (by intro w1 hS; clear hS; go_simp; with_reducible rfl) ?_; (simp only [Act.put, List.setIfInBounds_toArray, List.set_cons_zero, List.set_cons_succ]))
      refine wpPlan_loud rfl (fun K hK => ?_)
      have sx : x9.cell? ⟨w.heap.size, 5, none⟩ = some (.slice (some ⟨bF, oF, none⟩) n h2) := HK9.out.ref.bB.cell 5
      have zx := HK9.out.ref.bB.frozen 5
      go_simp
      refine hK _ _ (fun h => absurd rfl h) ?_
      clear hK K
      clear hops
      refine wpPlan_nil ?_
      obtain ⟨t10, HS10⟩ : ∃ zz, Hid ({ sz with wt := put1 sz.wt b w6 } = zz) := ⟨_, Lib.hid rfl⟩
      have HN10 : Hid (t10.n = n) := Lib.hid (by rw [← HS10.out]; exact HNZ.out)
      have HB10 : Hid (Bx S w (x9.setCell ⟨w.heap.size, 5, none⟩ (.slice a9 n c9)) w.heap.size (w.heap.size + 1) [.int .i64 (n : Int), .slice (some ⟨bS, oS, none⟩) n s2, .slice k1 n k2, .slice (some ⟨bM, oM, none⟩) n m2, .slice g1 n g2, .slice a9 n c9, .slice w1 nn w2] [.int .i64 0, .slice none 0 0, .slice none 0 0, .slice none 0 0, .slice none 0 0, .slice none 0 0, .slice none 0 0] (gf t10)) := Lib.hid (by
        have h1 := HK9.out.set 5 _ _ HX9.out
        rw [gf_wt sz b w6] at h1
        rw [← HS10.out]
        exact h1)
      clear sx zx HX9 HC9 HK9 HBY q5 dF HRF HWI 
      generalize x9.setCell _ _ = y9 at *
      have HFIN : Hid (s.step a b = t10) := Lib.hid (by rw [HDO.out, HHE.out, ← HS10.out, HVO.out, HWV.out])
      go_wp2_with (first | (refine wpList_plain rfl (fun K hK => wp_loadT aggGrant _ rfl w.heap.size [.int .i64 (n : Int), .slice (some ⟨bS, oS, none⟩) n s2, .slice k1 n k2, .slice (some ⟨bM, oM, none⟩) n m2, .slice g1 n g2, .slice a9 n c9, .slice w1 nn w2] (by rfl) HB10.out.ref.bB rfl ?_); refine hK _ _ ?_; clear hK) | (refine wpList_plain rfl (fun K hK => wp_storeT aggGrant _ _ rfl (w.heap.size + 1) [.int .i64 (n : Int), .slice (some ⟨bS, oS, none⟩) n s2, .slice k1 n k2, .slice (some ⟨bM, oM, none⟩) n m2, .slice g1 n g2, .slice a9 n c9, .slice w1 nn w2] _ (by rfl) (by rfl) rfl HB10.out.ref.bR rfl rfl ?_); intro wz hBz hcz; have HBW := Lib.hid (HB10.out.setR hBz hcz); clear hBz hcz; refine hK _ _ ?_; clear hK))
      (try simp only [Exit.inBlock, Exit.then]); refine bodyPost_ret (results_cell2 aggGrant rfl _ _ _ _ (by rfl) HBW.out.ref.bR rfl) rfl ?_
      rw [HE.out, HFIN.out]
      exact ⟨_, rfl, HBW.out.ans⟩
    · skip
      have HHE : Hid ((s.pop a b).hear a b x = { sz with wt := put1 sz.wt b (sz.wt b ||| 2 ^ a) }) := Lib.hid (by unfold GNet.hear; rw [if_neg HX0.out, if_pos (by rw [HSP.out, HMI.out]; omega), HSE.out])
      have e2 : (sv == 2) = false := by rw [beq_eq_false_iff_ne]; exact h2
      have e1 : (sv == 1) = true := by rw [beq_iff_eq]; exact h1
      have e3 : decide (tv < x) = false := decide_eq_false h3
      have e4 : (tv == x) = true := by rw [beq_iff_eq]; exact h4
      have e5 : decide (b < a) = true := decide_eq_true h5
      clear h2 h1 h3 h4 h5
      obtain ⟨wv, HWV⟩ : ∃ zz, Hid (sz.wt b = zz) := ⟨_, Lib.hid rfl⟩
      have HW16 : Hid (wv < 16) := Lib.hid (by rw [← HWV.out, HZP.out.2.2.1]; exact sub16 HS.out.n4 (HS.out.wt b HQS.out))
      have q5 : wc.cell? ⟨w.heap.size, 5, none⟩ = some (.slice h1 n h2) := HBY.out.ref.bB.cell 5
      have HRF : Hid (Rd (In S w w.heap.size (w.heap.size + 1)) wc (.slice h1 n h2) (natL sz.n sz.wt)) := Lib.hid (HBY.out.at (f := .l (natL sz.n sz.wt)) 5 rfl rfl)
      obtain ⟨bF, oF, cF, eF, -, hcF⟩ := HRF.out.form (by rw [natL_len, HNZ.out]; have := HQN.out; omega)
      rw [natL_len, HNZ.out] at eF
      simp only [Value.slice.injEq] at eF
      obtain ⟨rfl, -, rfl⟩ := eF
      have dF := hcF b (by rw [natL_len]; exact (by rw [HNZ.out]; exact HQN.out))
      rw [natL_at _ (show b < sz.n by rw [HNZ.out]; exact HQN.out), HWV.out] at dF
      clear hcF
      have HWI := Lib.hid (fun wq => with_any wv a (by have := HW16.out; omega) (by have := HPN.out; have := H5.out; omega) wq)
      obtain ⟨w6, HV2⟩ : ∃ zz, Hid (withB wv a = zz) := ⟨_, Lib.hid rfl⟩
      rw [HV2.out] at HWI
      have HVO : Hid (w6 = wv ||| 2 ^ a) := Lib.hid (by rw [← HV2.out]; exact withB_or wv HW16.out a (by have := HPN.out; have := H5.out; omega))
      go_wp2_with fail
      clear q1 q3 dU dS dM e2 e1 e3 e4 e5
      refine wp_region_plan (Chg NoF wc) 12 [(0,true),(1,true),(2,true),(3,true),(4,true),(5,true),(6,true),(7,true),(8,true),(9,false),(10,false),(11,true),(12,false)] mixed (by kernel_rfl) (Chg.refl _ _).drew ?_
      simp only [planOps, List.map_cons, List.map_nil, List.getElem?_cons_zero, List.getElem?_cons_succ, Option.getD_some]
      generalize hops : List.toArray _ = ops
      iterate 9 (refine wpPlan_quiet (v := ?_) rfl (fun _ _ _ h => h) (by intro w1 hS; have s0 := hS.cell_some q5 (fun h => h); have s1 := hS.cell_some dF (fun h => h); clear hS; go_simp; with_reducible rfl) ?_; (simp only [Act.put, List.setIfInBounds_toArray, List.set_cons_zero, List.set_cons_succ]))
      refine wpPlan_loud rfl (fun K hK => ?_)
      go_simp
      refine (HWI.out _).mono ?_
      rintro e wq ⟨rfl, rfl⟩
      refine hK _ _ (fun _ => (Chg.refl NoF wc).drew) ?_
      clear hK K
      (try simp only [Act.put, List.setIfInBounds_toArray, List.set_cons_zero, List.set_cons_succ])
      refine wpPlan_loud rfl (fun K hK => ?_)
      go_simp
      have HD11 := Lib.hid (HBY.out.no ((Chg.refl NoF wc).drew))
      refine (set_ref (In S w w.heap.size (w.heap.size + 1)) _ (natL sz.n sz.wt) b ((w6 : Nat) : Int) _ (HRF.out.keep ((Chg.refl NoF wc).drew) (fun _ _ h => h)) (by rw [natL_len, HNZ.out]; exact HQN.out) (by rw [natL_len, HNZ.out]; have := H5.out; omega)).mono ?_
      rintro e x11 ⟨v11, rfl, hr11, hc11⟩
      have HL11 : Hid (((natL sz.n sz.wt).set b ((w6 : Nat) : Int)).length = n) := Lib.hid (by rw [List.length_set, natL_len, HNZ.out])
      obtain ⟨a11, c11, e11⟩ := hr11.val
      rw [HL11.out] at e11
      subst e11
      have HC11 : Hid (Chg NoF wc x11) := Lib.hid (((Chg.refl NoF wc).drew).trans hc11)
      have HX11 := Lib.hid (HD11.out.told (f := .l ((natL sz.n sz.wt).set b ((w6 : Nat) : Int))) hr11)
      have HK11 := Lib.hid (HBY.out.no HC11.out)
      refine hK _ _ (fun _ => HC11.out) ?_
      clear hK K hr11 hc11 HD11
      (try simp only [Act.put, List.setIfInBounds_toArray, List.set_cons_zero, List.set_cons_succ])
      (refine wpPlan_quiet (v := ?_) rfl (fun _ _ _ h => h) (by intro w1 hS; clear hS; go_simp; with_reducible rfl) ?_; (simp only [Act.put, List.setIfInBounds_toArray, List.set_cons_zero, List.set_cons_succ]))
      refine wpPlan_loud rfl (fun K hK => ?_)
      have sx : x11.cell? ⟨w.heap.size, 5, none⟩ = some (.slice (some ⟨bF, oF, none⟩) n h2) := HK11.out.ref.bB.cell 5
      have zx := HK11.out.ref.bB.frozen 5
      go_simp
      refine hK _ _ (fun h => absurd rfl h) ?_
      clear hK K
      clear hops
      refine wpPlan_nil ?_
      obtain ⟨t12, HS12⟩ : ∃ zz, Hid ({ sz with wt := put1 sz.wt b w6 } = zz) := ⟨_, Lib.hid rfl⟩
      have HN12 : Hid (t12.n = n) := Lib.hid (by rw [← HS12.out]; exact HNZ.out)
      have HB12 : Hid (Bx S w (x11.setCell ⟨w.heap.size, 5, none⟩ (.slice a11 n c11)) w.heap.size (w.heap.size + 1) [.int .i64 (n : Int), .slice (some ⟨bS, oS, none⟩) n s2, .slice k1 n k2, .slice (some ⟨bM, oM, none⟩) n m2, .slice g1 n g2, .slice a11 n c11, .slice w1 nn w2] [.int .i64 0, .slice none 0 0, .slice none 0 0, .slice none 0 0, .slice none 0 0, .slice none 0 0, .slice none 0 0] (gf t12)) := Lib.hid (by
        have h1 := HK11.out.set 5 _ _ HX11.out
        rw [gf_wt sz b w6] at h1
        rw [← HS12.out]
        exact h1)
      clear sx zx HX11 HC11 HK11 HBY q5 dF HRF HWI 
      generalize x11.setCell _ _ = y11 at *
      have HFIN : Hid (s.step a b = t12) := Lib.hid (by rw [HDO.out, HHE.out, ← HS12.out, HVO.out, HWV.out])
      go_wp2_with (first | (refine wpList_plain rfl (fun K hK => wp_loadT aggGrant _ rfl w.heap.size [.int .i64 (n : Int), .slice (some ⟨bS, oS, none⟩) n s2, .slice k1 n k2, .slice (some ⟨bM, oM, none⟩) n m2, .slice g1 n g2, .slice a11 n c11, .slice w1 nn w2] (by rfl) HB12.out.ref.bB rfl ?_); refine hK _ _ ?_; clear hK) | (refine wpList_plain rfl (fun K hK => wp_storeT aggGrant _ _ rfl (w.heap.size + 1) [.int .i64 (n : Int), .slice (some ⟨bS, oS, none⟩) n s2, .slice k1 n k2, .slice (some ⟨bM, oM, none⟩) n m2, .slice g1 n g2, .slice a11 n c11, .slice w1 nn w2] _ (by rfl) (by rfl) rfl HB12.out.ref.bR rfl rfl ?_); intro wz hBz hcz; have HBW := Lib.hid (HB12.out.setR hBz hcz); clear hBz hcz; refine hK _ _ ?_; clear hK))
      (try simp only [Exit.inBlock, Exit.then]); refine bodyPost_ret (results_cell2 aggGrant rfl _ _ _ _ (by rfl) HBW.out.ref.bR rfl) rfl ?_
      rw [HE.out, HFIN.out]
      exact ⟨_, rfl, HBW.out.ans⟩
  · rcases hno with ⟨h2, h1⟩ | ⟨h2, h1, h3, h4⟩ | ⟨h2, h1, h3, h4, h5⟩
    · skip
      have HHE : Hid ((s.pop a b).hear a b x = sz.push b a 0) := Lib.hid (by unfold GNet.hear; rw [if_neg HX0.out, if_neg (by rw [HSP.out, HMI.out]; omega), ← HSE.out])
      have e2 : (sv == 2) = false := by rw [beq_eq_false_iff_ne]; exact h2
      have e1 : (sv == 1) = false := by rw [beq_eq_false_iff_ne]; exact h1
      clear h2 h1
      have HFIN : Hid (s.step a b = sz.push b a 0) := Lib.hid (by rw [HDO.out, HHE.out])
      have HBS : Hid (b < sz.n) := Lib.hid (by rw [HNZ.out]; exact HQN.out)
      have HAS : Hid (a < sz.n) := Lib.hid (by rw [HNZ.out]; exact HPN.out)
      have HLN : Hid ((sz.ways b a).length < 5000) := Lib.hid (by rw [HZP.out.2.2.2]; have h1 := HS.out.len b a HQS.out HPS.out; have h2 := gpop_len s a b b a; omega)
      go_wp2_with (refine wpList_plain rfl (fun K hK => wp_loadT aggGrant _ rfl w.heap.size [.int .i64 (n : Int), .slice (some ⟨bS, oS, none⟩) n s2, .slice k1 n k2, .slice (some ⟨bM, oM, none⟩) n m2, .slice g1 n g2, .slice h1 n h2, .slice w1 nn w2] (by rfl) HBY.out.ref.bB rfl ?_); refine hK _ _ ?_; clear hK)
      refine (sendGrant_ref (In S w w.heap.size (w.heap.size + 1)) _ _ sz HBY.out.fld (by rw [HNZ.out]; exact H5.out) b a HBS.out HAS.out 0 HLN.out).mono ?_
      rintro e w8 ⟨v8, rfl, us8, rfl, hr8, hc8⟩
      have HR8 := Lib.hid (HBY.out.toldS hr8)
      have HB8 := Lib.hid (HBY.out.no hc8)
      clear hr8 hc8
      go_wp2_with (refine wpList_plain rfl (fun K hK => wp_storeT aggGrant _ _ rfl (w.heap.size + 1) us8 _ (by rfl) (by rfl) HR8.out.len HB8.out.ref.bR rfl HR8.out.one ?_); intro w9 hB9 hc9; have HB9 := Lib.hid hB9; have HC9 : Hid (Chg NoF w w9) := Lib.hid (HB8.out.ref.chg.trans2 hc9 fun i _ hi => .inr (by have hi : i = w.heap.size + 1 := hi; omega)); have HR9 : Hid (RdS (More S w) w9 us8 (gf (sz.push b a 0))) := Lib.hid ((HR8.out.keep hc9 (fun b hb e => (HB8.out.notB b hb).2 e)).mono (fun b _ hb => hb.elim (fun h => .inl h.1) (fun h => .inr h.1))); clear hB9 hc9; refine hK _ _ ?_; clear hK)
      (try simp only [Exit.inBlock, Exit.then]); refine bodyPost_ret (results_cell2 aggGrant rfl _ _ _ _ (by rfl) HB9.out HR8.out.len) rfl ?_
      exact ⟨_, by rw [HE.out]; rfl, us8, rfl, by rw [HFIN.out]; exact HR9.out, HC9.out⟩
    · skip
      have HHE : Hid ((s.pop a b).hear a b x = sz.push b a 0) := Lib.hid (by unfold GNet.hear; rw [if_neg HX0.out, if_neg (by rw [HSP.out, HMI.out]; omega), ← HSE.out])
      have e2 : (sv == 2) = false := by rw [beq_eq_false_iff_ne]; exact h2
      have e1 : (sv == 1) = true := by rw [beq_iff_eq]; exact h1
      have e3 : decide (tv < x) = false := decide_eq_false h3
      have e4 : (tv == x) = false := by rw [beq_eq_false_iff_ne]; exact h4
      clear h2 h1 h3 h4
      have HFIN : Hid (s.step a b = sz.push b a 0) := Lib.hid (by rw [HDO.out, HHE.out])
      have HBS : Hid (b < sz.n) := Lib.hid (by rw [HNZ.out]; exact HQN.out)
      have HAS : Hid (a < sz.n) := Lib.hid (by rw [HNZ.out]; exact HPN.out)
      have HLN : Hid ((sz.ways b a).length < 5000) := Lib.hid (by rw [HZP.out.2.2.2]; have h1 := HS.out.len b a HQS.out HPS.out; have h2 := gpop_len s a b b a; omega)
      go_wp2_with (refine wpList_plain rfl (fun K hK => wp_loadT aggGrant _ rfl w.heap.size [.int .i64 (n : Int), .slice (some ⟨bS, oS, none⟩) n s2, .slice k1 n k2, .slice (some ⟨bM, oM, none⟩) n m2, .slice g1 n g2, .slice h1 n h2, .slice w1 nn w2] (by rfl) HBY.out.ref.bB rfl ?_); refine hK _ _ ?_; clear hK)
      refine (sendGrant_ref (In S w w.heap.size (w.heap.size + 1)) _ _ sz HBY.out.fld (by rw [HNZ.out]; exact H5.out) b a HBS.out HAS.out 0 HLN.out).mono ?_
      rintro e w8 ⟨v8, rfl, us8, rfl, hr8, hc8⟩
      have HR8 := Lib.hid (HBY.out.toldS hr8)
      have HB8 := Lib.hid (HBY.out.no hc8)
      clear hr8 hc8
      go_wp2_with (refine wpList_plain rfl (fun K hK => wp_storeT aggGrant _ _ rfl (w.heap.size + 1) us8 _ (by rfl) (by rfl) HR8.out.len HB8.out.ref.bR rfl HR8.out.one ?_); intro w9 hB9 hc9; have HB9 := Lib.hid hB9; have HC9 : Hid (Chg NoF w w9) := Lib.hid (HB8.out.ref.chg.trans2 hc9 fun i _ hi => .inr (by have hi : i = w.heap.size + 1 := hi; omega)); have HR9 : Hid (RdS (More S w) w9 us8 (gf (sz.push b a 0))) := Lib.hid ((HR8.out.keep hc9 (fun b hb e => (HB8.out.notB b hb).2 e)).mono (fun b _ hb => hb.elim (fun h => .inl h.1) (fun h => .inr h.1))); clear hB9 hc9; refine hK _ _ ?_; clear hK)
      (try simp only [Exit.inBlock, Exit.then]); refine bodyPost_ret (results_cell2 aggGrant rfl _ _ _ _ (by rfl) HB9.out HR8.out.len) rfl ?_
      exact ⟨_, by rw [HE.out]; rfl, us8, rfl, by rw [HFIN.out]; exact HR9.out, HC9.out⟩
    · skip
      have HHE : Hid ((s.pop a b).hear a b x = sz.push b a 0) := Lib.hid (by unfold GNet.hear; rw [if_neg HX0.out, if_neg (by rw [HSP.out, HMI.out]; omega), ← HSE.out])
      have e2 : (sv == 2) = false := by rw [beq_eq_false_iff_ne]; exact h2
      have e1 : (sv == 1) = true := by rw [beq_iff_eq]; exact h1
      have e3 : decide (tv < x) = false := decide_eq_false h3
      have e4 : (tv == x) = true := by rw [beq_iff_eq]; exact h4
      have e5 : decide (b < a) = false := decide_eq_false h5
      clear h2 h1 h3 h4 h5
      have HFIN : Hid (s.step a b = sz.push b a 0) := Lib.hid (by rw [HDO.out, HHE.out])
      have HBS : Hid (b < sz.n) := Lib.hid (by rw [HNZ.out]; exact HQN.out)
      have HAS : Hid (a < sz.n) := Lib.hid (by rw [HNZ.out]; exact HPN.out)
      have HLN : Hid ((sz.ways b a).length < 5000) := Lib.hid (by rw [HZP.out.2.2.2]; have h1 := HS.out.len b a HQS.out HPS.out; have h2 := gpop_len s a b b a; omega)
      go_wp2_with (refine wpList_plain rfl (fun K hK => wp_loadT aggGrant _ rfl w.heap.size [.int .i64 (n : Int), .slice (some ⟨bS, oS, none⟩) n s2, .slice k1 n k2, .slice (some ⟨bM, oM, none⟩) n m2, .slice g1 n g2, .slice h1 n h2, .slice w1 nn w2] (by rfl) HBY.out.ref.bB rfl ?_); refine hK _ _ ?_; clear hK)
      refine (sendGrant_ref (In S w w.heap.size (w.heap.size + 1)) _ _ sz HBY.out.fld (by rw [HNZ.out]; exact H5.out) b a HBS.out HAS.out 0 HLN.out).mono ?_
      rintro e w8 ⟨v8, rfl, us8, rfl, hr8, hc8⟩
      have HR8 := Lib.hid (HBY.out.toldS hr8)
      have HB8 := Lib.hid (HBY.out.no hc8)
      clear hr8 hc8
      go_wp2_with (refine wpList_plain rfl (fun K hK => wp_storeT aggGrant _ _ rfl (w.heap.size + 1) us8 _ (by rfl) (by rfl) HR8.out.len HB8.out.ref.bR rfl HR8.out.one ?_); intro w9 hB9 hc9; have HB9 := Lib.hid hB9; have HC9 : Hid (Chg NoF w w9) := Lib.hid (HB8.out.ref.chg.trans2 hc9 fun i _ hi => .inr (by have hi : i = w.heap.size + 1 := hi; omega)); have HR9 : Hid (RdS (More S w) w9 us8 (gf (sz.push b a 0))) := Lib.hid ((HR8.out.keep hc9 (fun b hb e => (HB8.out.notB b hb).2 e)).mono (fun b _ hb => hb.elim (fun h => .inl h.1) (fun h => .inr h.1))); clear hB9 hc9; refine hK _ _ ?_; clear hK)
      (try simp only [Exit.inBlock, Exit.then]); refine bodyPost_ret (results_cell2 aggGrant rfl _ _ _ _ (by rfl) HB9.out HR8.out.len) rfl ?_
      exact ⟨_, by rw [HE.out]; rfl, us8, rfl, by rw [HFIN.out]; exact HR9.out, HC9.out⟩

end Go.Proofs.YtmkjfiopkmcjcaaDoor
