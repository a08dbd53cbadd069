/-
  The document's answers about the lock whose token goes from one to the next: a message that comes.
  Conditions: the answer's lists are read, and tell the program's net.
-/
import Derived.Test.YthblnljjhbdejaaDoorToS
namespace Go.Proofs.YthblnljjhbdejaaDoor
open Go Go.RowKit

set_option maxHeartbeats 8000000 in
set_option maxRecDepth 100000 in
theorem step_ref (S : Nat → Prop) (w : World) (us : List Value) (s : TNet) (h : RdS S w us (tf s)) (hs : TGood s) (p q : Int) :
    Calls Tryd.prog 11 #[.agg us.toArray, .int .i64 p, .int .i64 q] w (TAns S w (s.step p q) (s.stepErr p q)) := by
  have h4 : s.n ≤ 4 := hs.sane.n4
  obtain ⟨sa, sc, ha, hc, va, vc, qa, qc, wa, wc, rfl⟩ := tf_opn h
  have HU := Lib.hid h
  obtain ⟨n, HN⟩ : ∃ n, Hid (s.n = n) := ⟨_, Lib.hid rfl⟩
  obtain ⟨nn, HNN⟩ : ∃ nn, Hid (n * n = nn) := ⟨_, Lib.hid rfl⟩
  obtain ⟨ho, HHO⟩ : ∃ zz, Hid (s.holder = zz) := ⟨_, Lib.hid rfl⟩
  obtain ⟨tg, HTG⟩ : ∃ zz, Hid (s.targetOf = zz) := ⟨_, Lib.hid rfl⟩
  obtain ⟨qn, HQL⟩ : ∃ zz, Hid (s.queue.length = zz) := ⟨_, Lib.hid rfl⟩
  have H5 : Hid (n ≤ 4) := Lib.hid (by rw [← HN.out]; exact h4)
  have HN25 : Hid (nn ≤ 16) := Lib.hid (by rw [← HNN.out]; exact Nat.mul_le_mul H5.out H5.out)
  rw [HN.out, HNN.out, HHO.out, HTG.out, HQL.out] at HU ⊢
  have HS := Lib.hid hs
  have hwn : wrap64 ((n : Int) - 1) = (n : Int) - 1 := IntWalk.wrap64_in _ (by have := H5.out; omega)
  clear h h4 hs
  have BAD : Hid (∀ x (w' : World), s.stepErr p q = x → x ≠ 0 → Bx S w w' w.heap.size (w.heap.size + 1) [.int .i64 (n : Int), .slice sa n sc, .slice ha n hc, .int .i64 ho, .int .i64 tg, .slice va n vc, .slice qa qn qc, .slice wa nn wc] [.int .i64 (n : Int), .slice sa n sc, .slice ha n hc, .int .i64 ho, .int .i64 tg, .slice va n vc, .slice qa qn qc, .slice wa nn wc] (tf s) → TAns S w (s.step p q) (s.stepErr p q) (.returned (.tuple #[.agg #[.int .i64 (n : Int), .slice sa n sc, .slice ha n hc, .int .i64 ho, .int .i64 tg, .slice va n vc, .slice qa qn qc, .slice wa nn wc], .int .i64 x])) w') := Lib.hid fun x w' he hx hR => by
    have h1 : s.step p q = s := by unfold TNet.step; rw [if_neg (by rw [he]; exact hx)]
    rw [h1, he]
    exact ⟨_, rfl, hR.ans⟩
  have HIp : Hid (inB p 0 ((n : Int) - 1) = s.is p) := Lib.hid (by rw [← HN.out]; exact s.is_in p)
  have HIq : Hid (inB q 0 ((n : Int) - 1) = s.is q) := Lib.hid (by rw [← HN.out]; exact s.is_in q)
  cases hip : s.is p with
  | false =>
    have HE : Hid (s.stepErr p q = 1) := Lib.hid (by unfold TNet.stepErr; rw [if_pos (.inl hip)])
    rw [hip] at HIp
    clear hip
    go_enter Tryd.func11, Tryd.ntmps11
    go_wp2_with fail
    refine (ref6In_any _ _ _ _).mono ?_
    rintro e w2 ⟨rfl, rfl⟩
    rw [HIp.out]
    have HB := Lib.hid (Bx.start w [.int .i64 (n : Int), .slice sa n sc, .slice ha n hc, .int .i64 ho, .int .i64 tg, .slice va n vc, .slice qa qn qc, .slice wa nn wc] [.int .i64 0, .slice none 0 0, .slice none 0 0, .int .i64 0, .int .i64 0, .slice none 0 0, .slice none 0 0, .slice none 0 0] (tf s) HU.out 31 31)
    generalize ((w.alloc _).alloc _) = w2 at *
    go_wp2_with (first | (refine wpList_plain rfl (fun K hK => wp_loadT aggToken _ rfl w.heap.size [.int .i64 (n : Int), .slice sa n sc, .slice ha n hc, .int .i64 ho, .int .i64 tg, .slice va n vc, .slice qa qn qc, .slice wa nn wc] (by rfl) HB.out.ref.bB rfl ?_); refine hK _ _ ?_; clear hK) | (refine wpList_plain rfl (fun K hK => wp_storeT aggToken _ _ rfl (w.heap.size + 1) [.int .i64 (n : Int), .slice sa n sc, .slice ha n hc, .int .i64 ho, .int .i64 tg, .slice va n vc, .slice qa qn qc, .slice wa nn wc] _ (by rfl) (by rfl) rfl HB.out.ref.bR rfl rfl ?_); intro wz hBz hcz; have HBZ := Lib.hid (HB.out.setR hBz hcz); clear hBz hcz; refine hK _ _ ?_; clear hK))
    (try simp only [Exit.inBlock, Exit.then]); refine bodyPost_ret (results_cell2 aggToken rfl _ _ _ _ (by rfl) HBZ.out.ref.bR rfl) rfl ?_
    exact BAD.out 1 _ HE.out (by omega) HBZ.out
  | true =>
  cases hiq : s.is q with
  | false =>
    have HE : Hid (s.stepErr p q = 1) := Lib.hid (by unfold TNet.stepErr; rw [if_pos (.inr hiq)])
    rw [hip] at HIp
    rw [hiq] at HIq
    clear hip hiq
    go_enter Tryd.func11, Tryd.ntmps11
    go_wp2_with fail
    refine (ref6In_any _ _ _ _).mono ?_
    rintro e w2 ⟨rfl, rfl⟩
    rw [HIp.out]
    go_wp2_with fail
    refine (ref6In_any _ _ _ _).mono ?_
    rintro e w2 ⟨rfl, rfl⟩
    rw [HIq.out]
    have HB := Lib.hid (Bx.start w [.int .i64 (n : Int), .slice sa n sc, .slice ha n hc, .int .i64 ho, .int .i64 tg, .slice va n vc, .slice qa qn qc, .slice wa nn wc] [.int .i64 0, .slice none 0 0, .slice none 0 0, .int .i64 0, .int .i64 0, .slice none 0 0, .slice none 0 0, .slice none 0 0] (tf s) HU.out 31 31)
    generalize ((w.alloc _).alloc _) = w2 at *
    go_wp2_with (first | (refine wpList_plain rfl (fun K hK => wp_loadT aggToken _ rfl w.heap.size [.int .i64 (n : Int), .slice sa n sc, .slice ha n hc, .int .i64 ho, .int .i64 tg, .slice va n vc, .slice qa qn qc, .slice wa nn wc] (by rfl) HB.out.ref.bB rfl ?_); refine hK _ _ ?_; clear hK) | (refine wpList_plain rfl (fun K hK => wp_storeT aggToken _ _ rfl (w.heap.size + 1) [.int .i64 (n : Int), .slice sa n sc, .slice ha n hc, .int .i64 ho, .int .i64 tg, .slice va n vc, .slice qa qn qc, .slice wa nn wc] _ (by rfl) (by rfl) rfl HB.out.ref.bR rfl rfl ?_); intro wz hBz hcz; have HBZ := Lib.hid (HB.out.setR hBz hcz); clear hBz hcz; refine hK _ _ ?_; clear hK))
    (try simp only [Exit.inBlock, Exit.then]); refine bodyPost_ret (results_cell2 aggToken rfl _ _ _ _ (by rfl) HBZ.out.ref.bR rfl) rfl ?_
    exact BAD.out 1 _ HE.out (by omega) HBZ.out
  | true =>
  have HOK : Hid (¬ (s.is p = false ∨ s.is q = false)) := Lib.hid (by rw [hip, hiq]; simp)
  rw [hip] at HIp
  rw [hiq] at HIq
  obtain ⟨a, rfl, haa⟩ := (s.is_iff p).1 hip
  obtain ⟨b, rfl, hbb⟩ := (s.is_iff q).1 hiq
  have HPS := Lib.hid haa
  have HQS := Lib.hid hbb
  have HPN : Hid (a < n) := Lib.hid (by rw [← HN.out]; exact haa)
  have HQN : Hid (b < n) := Lib.hid (by rw [← HN.out]; exact hbb)
  have han : (a : Int) < n := by have := HPN.out; omega
  have hbn : (b : Int) < n := by have := HQN.out; omega
  clear haa hbb hip hiq
  obtain ⟨mm, HMM⟩ : ∃ mm, Hid (a * n = mm) := ⟨_, Lib.hid rfl⟩
  obtain ⟨ix, HIX0⟩ : ∃ ix, Hid (mm + b = ix) := ⟨_, Lib.hid rfl⟩
  have HKN : Hid (ix < nn) := Lib.hid (by rw [← HIX0.out, ← HMM.out, ← HNN.out]; exact flat_lt HPN.out HQN.out)
  have HMM2 : Hid (mm ≤ 16) := Lib.hid (by have := HIX0.out; have := HKN.out; have := HN25.out; omega)
  have HIX2 : Hid (ix ≤ 16) := Lib.hid (by have := HKN.out; have := HN25.out; omega)
  have hkn : (ix : Int) < nn := by have := HKN.out; omega
  have HIX : Hid (a * s.n + b = ix) := Lib.hid (by rw [HN.out, HMM.out, HIX0.out])
  have HW1 : Hid (IntKind.i64.wrap ((a : Int) * (n : Int)) = (mm : Int) ∧ wrap64 ((a : Int) * (n : Int)) = (mm : Int)) := Lib.hid (by rw [← Int.natCast_mul, HMM.out]; exact wrap_nat (Nat.le_trans HMM2.out (by decide)))
  have HW2 : Hid (IntKind.i64.wrap ((mm : Int) + (b : Int)) = (ix : Int) ∧ wrap64 ((mm : Int) + (b : Int)) = (ix : Int)) := Lib.hid (by rw [← HIX0.out, Int.natCast_add]; exact wrap_nat2 mm b (by rw [HIX0.out]; exact Nat.le_trans HIX2.out (by decide)))
  cases hway : s.ways a b with
  | nil =>
    have HE : Hid (s.stepErr a b = 5) := Lib.hid (by unfold TNet.stepErr; rw [if_neg HOK.out, Int.toNat_natCast, Int.toNat_natCast, if_pos hway])
    go_enter Tryd.func11, Tryd.ntmps11
    go_wp2_with fail
    refine (ref6In_any _ _ _ _).mono ?_
    rintro e w2 ⟨rfl, rfl⟩
    rw [HIp.out]
    go_wp2_with fail
    refine (ref6In_any _ _ _ _).mono ?_
    rintro e w2 ⟨rfl, rfl⟩
    rw [HIq.out]
    have HB := Lib.hid (Bx.start w [.int .i64 (n : Int), .slice sa n sc, .slice ha n hc, .int .i64 ho, .int .i64 tg, .slice va n vc, .slice qa qn qc, .slice wa nn wc] [.int .i64 0, .slice none 0 0, .slice none 0 0, .int .i64 0, .int .i64 0, .slice none 0 0, .slice none 0 0, .slice none 0 0] (tf s) HU.out 31 31)
    generalize ((w.alloc _).alloc _) = w2 at *
    have q0 : w2.cell? ⟨w.heap.size, 0, none⟩ = some (.int .i64 (n : Int)) := HB.out.ref.bB.cell 0
    have q7 : w2.cell? ⟨w.heap.size, 7, none⟩ = some (.slice wa nn wc) := HB.out.ref.bB.cell 7
    have HWY : Hid (Rd2 (In S w w.heap.size (w.heap.size + 1)) w2 (.slice wa nn wc) (flat s.n s.ways)) := Lib.hid (HB.out.at 7 rfl rfl)
    have HFL : Hid ((flat s.n s.ways).length = nn) := Lib.hid (by rw [flat_len, HN.out, HNN.out])
    obtain ⟨bG, oG, cG, u, ev, dr, hru, hrl⟩ := HWY.out.at (Chg.refl NoF w2) (fun _ _ h => h) (j := ix) (by rw [HFL.out]; exact HKN.out)
    rw [HFL.out] at ev
    simp only [Value.slice.injEq] at ev
    obtain ⟨rfl, -, rfl⟩ := ev
    rw [← HIX.out, flat_at _ HPS.out HQS.out] at hru hrl
    skip
    rw [hway] at hru
    obtain ⟨ua, uc, rfl⟩ := hru.val
    have dr2 : w2.cell? ⟨bG, oG + ix, none⟩ = some (.slice ua 0 uc) := dr
    clear hru hrl dr
    have hw1 := HW1.out.1
    have hw2 := HW2.out.1
    have hw3 := HW1.out.2
    have hw4 := HW2.out.2
    go_wp2_with (first | (refine wpList_plain rfl (fun K hK => wp_loadT aggToken _ rfl w.heap.size [.int .i64 (n : Int), .slice sa n sc, .slice ha n hc, .int .i64 ho, .int .i64 tg, .slice va n vc, .slice qa qn qc, .slice (some ⟨bG, oG, none⟩) nn wc] (by rfl) HB.out.ref.bB rfl ?_); refine hK _ _ ?_; clear hK) | (refine wpList_plain rfl (fun K hK => wp_storeT aggToken _ _ rfl (w.heap.size + 1) [.int .i64 (n : Int), .slice sa n sc, .slice ha n hc, .int .i64 ho, .int .i64 tg, .slice va n vc, .slice qa qn qc, .slice (some ⟨bG, oG, none⟩) nn wc] _ (by rfl) (by rfl) rfl HB.out.ref.bR rfl rfl ?_); intro wz hBz hcz; have HBZ := Lib.hid (HB.out.setR hBz hcz); clear hBz hcz; refine hK _ _ ?_; clear hK))
    (try simp only [Exit.inBlock, Exit.then]); refine bodyPost_ret (results_cell2 aggToken rfl _ _ _ _ (by rfl) HBZ.out.ref.bR rfl) rfl ?_
    have h1 : s.step a b = s := by unfold TNet.step; rw [if_neg (by rw [HE.out]; decide)]
    rw [h1, HE.out]
    exact ⟨_, rfl, HBZ.out.ans⟩
  | cons x t =>
  have HE : Hid (s.stepErr a b = 0) := Lib.hid (by unfold TNet.stepErr; rw [if_neg HOK.out, Int.toNat_natCast, Int.toNat_natCast, if_neg (by rw [hway]; simp)])
  have HDO : Hid (s.step a b = (s.pop a b).hear a b x) := Lib.hid (by unfold TNet.step; rw [if_pos HE.out, Int.toNat_natCast, Int.toNat_natCast, hway]; rfl)
  obtain ⟨tl, HTL⟩ : ∃ tl, Hid (t.length = tl) := ⟨_, Lib.hid rfl⟩
  have HWL : Hid (tl < 1000) := Lib.hid (by have := HS.out.sane.len a b HPS.out HQS.out; rw [hway] at this; simp at this; have := HTL.out; omega)
  have hz : (((tl : Int) + 1) == 0) = false := by rw [beq_eq_false_iff_ne]; omega
  have htl2 : (1 : Int) ≤ (tl : Int) + 1 := by omega
  have hz0 : (0 : Int) < (tl : Int) + 1 := by omega
  have HPOP : Hid ((tf s).set 7 (.r ((flat s.n s.ways).set ix t)) = tf (s.pop a b)) := Lib.hid (by have := tf_pop s HQS.out (p := a); rw [HIX.out, hway] at this; exact this)
  have hmsg := HS.out.inv.msg a b HPS.out HQS.out x (by rw [hway]; exact List.mem_cons_self)
  have hx2 := HS.out.inv.top a HPS.out
  obtain ⟨hx0, hx1⟩ : 0 ≤ x ∧ x ≤ 1000 := by omega
  have HWE := Lib.hid hway
  clear hway hmsg hx2
  go_enter Tryd.func11, Tryd.ntmps11
  go_wp2_with fail
  refine (ref6In_any _ _ _ _).mono ?_
  rintro e w2 ⟨rfl, rfl⟩
  rw [HIp.out]
  go_wp2_with fail
  refine (ref6In_any _ _ _ _).mono ?_
  rintro e w2 ⟨rfl, rfl⟩
  rw [HIq.out]
  have HB := Lib.hid (Bx.start w [.int .i64 (n : Int), .slice sa n sc, .slice ha n hc, .int .i64 ho, .int .i64 tg, .slice va n vc, .slice qa qn qc, .slice wa nn wc] [.int .i64 0, .slice none 0 0, .slice none 0 0, .int .i64 0, .int .i64 0, .slice none 0 0, .slice none 0 0, .slice none 0 0] (tf s) HU.out 31 31)
  generalize ((w.alloc _).alloc _) = w2 at *
  have q0 : w2.cell? ⟨w.heap.size, 0, none⟩ = some (.int .i64 (n : Int)) := HB.out.ref.bB.cell 0
  have q7 : w2.cell? ⟨w.heap.size, 7, none⟩ = some (.slice wa nn wc) := HB.out.ref.bB.cell 7
  have HWY : Hid (Rd2 (In S w w.heap.size (w.heap.size + 1)) w2 (.slice wa nn wc) (flat s.n s.ways)) := Lib.hid (HB.out.at 7 rfl rfl)
  have HFL : Hid ((flat s.n s.ways).length = nn) := Lib.hid (by rw [flat_len, HN.out, HNN.out])
  obtain ⟨bG, oG, cG, u, ev, dr, hru, hrl⟩ := HWY.out.at (Chg.refl NoF w2) (fun _ _ h => h) (j := ix) (by rw [HFL.out]; exact HKN.out)
  rw [HFL.out] at ev
  simp only [Value.slice.injEq] at ev
  obtain ⟨rfl, -, rfl⟩ := ev
  rw [← HIX.out, flat_at _ HPS.out HQS.out] at hru hrl
  skip
  rw [HWE.out] at hru
  obtain ⟨bU, oU, cU, rfl, hUS, hcap, hcU⟩ := hru.formC (by simp)
  have dU := hcU 0 (by simp)
  rw [show (x :: t).getD 0 0 = x from rfl, Nat.add_zero] at dU
  rw [show (x :: t).length = tl + 1 by rw [List.length_cons, HTL.out]] at dr hru hcap
  have HRU0 := Lib.hid hru
  obtain ⟨off, hoff, hoff2⟩ := tail_off2 bU oU cU tl hcap
  have HTAIL : Hid (Rd (In S w w.heap.size (w.heap.size + 1)) w2 (.slice (some ⟨bU, off, none⟩) tl (cU - 1)) t) := Lib.hid (Rd.tail2 hru HTL.out hoff2)
  have hcap2 : (tl : Int) + 1 ≤ cU := by omega
  clear hru hrl hcU hUS hoff2 hcap
  have hw1 := HW1.out.1
  have hw2 := HW2.out.1
  have hw3 := HW1.out.2
  have hw4 := HW2.out.2
  go_wp2_with fail
  refine wp_region_plan (Chg NoF w2) 12 [(0,true),(1,true),(2,true),(3,true),(4,true),(5,true),(6,true),(7,true),(8,true),(9,true),(10,false),(11,true),(12,false)] mixed (by kernel_rfl) (Chg.refl _ _).drew ?_
  simp only [planOps, List.map_cons, List.map_nil, List.getElem?_cons_zero, List.getElem?_cons_succ, Option.getD_some]
  generalize hops : List.toArray _ = ops
  iterate 10 (refine wpPlan_quiet (v := ?_) rfl (fun _ _ _ h => h) (by intro w1 hS; have s0 := hS.cell_some q7 (fun h => h); have s1 := hS.cell_some q0 (fun h => h); clear hS; go_simp; with_reducible rfl) ?_; (simp only [Act.put, List.setIfInBounds_toArray, List.set_cons_zero, List.set_cons_succ]))
  refine wpPlan_loud rfl (fun K hK => ?_)
  go_simp
  have HD1 := Lib.hid (HB.out.no ((Chg.refl NoF w2).drew))
  refine (rows_ref (In S w w.heap.size (w.heap.size + 1)) _ _ (flat s.n s.ways) ix t _ (HWY.out.keep ((Chg.refl NoF w2).drew) (fun _ _ h => h)) (HTAIL.out.keep ((Chg.refl NoF w2).drew) (fun _ _ h => h)) (by rw [HTL.out]; have := HWL.out; omega) (by rw [HFL.out]; exact HKN.out) (by rw [HFL.out]; have := HN25.out; omega)).mono ?_
  rintro e x1 ⟨v1, rfl, hr1, hc1⟩
  have HL1 : Hid (((flat s.n s.ways).set ix t).length = nn) := Lib.hid (by rw [List.length_set, HFL.out])
  obtain ⟨a1, c1, e1⟩ := hr1.val
  rw [HL1.out] at e1
  subst e1
  have HC1 : Hid (Chg NoF w2 x1) := Lib.hid (((Chg.refl NoF w2).drew).trans hc1)
  have HX1 := Lib.hid (HD1.out.told (f := .r ((flat s.n s.ways).set ix t)) hr1)
  have HK1 := Lib.hid (HB.out.no HC1.out)
  refine hK _ _ (fun _ => HC1.out) ?_
  clear hK K hr1 hc1 HD1
  (try simp only [Act.put, List.setIfInBounds_toArray, List.set_cons_zero, List.set_cons_succ])
  (refine wpPlan_quiet (v := ?_) rfl (fun _ _ _ h => h) (by intro w1 hS; clear hS; go_simp; with_reducible rfl) ?_; (simp only [Act.put, List.setIfInBounds_toArray, List.set_cons_zero, List.set_cons_succ]))
  refine wpPlan_loud rfl (fun K hK => ?_)
  have sx : x1.cell? ⟨w.heap.size, 7, none⟩ = some (.slice (some ⟨bG, oG, none⟩) nn wc) := HK1.out.ref.bB.cell 7
  have zx := HK1.out.ref.bB.frozen 7
  go_simp
  refine hK _ _ (fun h => absurd rfl h) ?_
  clear hK K
  clear hops
  refine wpPlan_nil ?_
  obtain ⟨t2, HS2⟩ : ∃ zz, Hid (s.pop a b = zz) := ⟨_, Lib.hid rfl⟩
  have HN2 : Hid (t2.n = n) := Lib.hid (by rw [← HS2.out]; exact HN.out)
  have HB2 : Hid (Bx S w (x1.setCell ⟨w.heap.size, 7, none⟩ (.slice a1 nn c1)) w.heap.size (w.heap.size + 1) [.int .i64 (n : Int), .slice sa n sc, .slice ha n hc, .int .i64 ho, .int .i64 tg, .slice va n vc, .slice qa qn qc, .slice a1 nn c1] [.int .i64 0, .slice none 0 0, .slice none 0 0, .int .i64 0, .int .i64 0, .slice none 0 0, .slice none 0 0, .slice none 0 0] (tf t2)) := Lib.hid (by
    have h1 := HK1.out.set 7 _ _ HX1.out
    rw [HPOP.out] at h1
    rw [← HS2.out]
    exact h1)
  have HU5 : Hid (Rd (In S w w.heap.size (w.heap.size + 1)) (x1.setCell ⟨w.heap.size, 7, none⟩ (.slice a1 nn c1)) (.slice (some ⟨bU, oU, none⟩) (tl + 1) cU) (x :: t)) := Lib.hid ((HRU0.out.keep HC1.out (fun _ _ h => h)).keep (setCell_chg x1 ⟨w.heap.size, 7, none⟩ _) (fun b hb e => (HK1.out.notB b hb).1 e))
  clear sx zx HX1 HC1 HK1 HB q0 q7 dr dU HWY HTAIL hoff hcap2 htl2 hz hw1 hw2 hw3 hw4 hkn
  generalize x1.setCell _ _ = y1 at *
  have dU : y1.cell? ⟨bU, oU, none⟩ = some (.int .i64 x) := by
    obtain ⟨b1, o1, c1, e1, -, hc1⟩ := HU5.out.form (by simp)
    simp only [Value.slice.injEq, Option.some.injEq, Addr.mk.injEq, and_true] at e1
    obtain ⟨⟨rfl, rfl⟩, -, -⟩ := e1
    have := hc1 0 (by simp)
    rw [show (x :: t).getD 0 0 = x from rfl, Nat.add_zero] at this
    exact this
  obtain ⟨hv, HHV⟩ : ∃ zz, Hid (t2.had b a = zz) := ⟨_, Lib.hid rfl⟩
  have hvb : 0 ≤ hv ∧ hv ≤ 1000 := by rw [← HHV.out, ← HS2.out]; exact HS.out.sane.had a b HPS.out HQS.out
  obtain ⟨hv1, hv2⟩ := hvb
  have q2 : y1.cell? ⟨w.heap.size, 2, none⟩ = some (.slice ha n hc) := HB2.out.ref.bB.cell 2
  have HRR : Hid (Rd2 (In S w w.heap.size (w.heap.size + 1)) y1 (.slice ha n hc) (t2.hadL)) := Lib.hid (HB2.out.at (f := .r (t2.hadL)) 2 rfl rfl)
  obtain ⟨bR, oR, cR, uR, eR, dR, hruR, hrlR⟩ := HRR.out.at (Chg.refl NoF y1) (fun _ _ h => h) (j := b) (by rw [t2.hadL_len, HN2.out]; exact HQN.out)
  rw [t2.hadL_len, HN2.out] at eR
  simp only [Value.slice.injEq] at eR
  obtain ⟨rfl, -, rfl⟩ := eR
  rw [t2.hadL_at (show b < t2.n by rw [HN2.out]; exact HQN.out)] at hruR hrlR
  obtain ⟨bH, oH, cH, rfl, -, hcH⟩ := hruR.form (by rw [line_len, HN2.out]; have := HQN.out; omega)
  have HRU := Lib.hid (Rd.relen hruR (show (line t2.n (t2.had b)).length = n by rw [line_len, HN2.out]))
  rw [line_len, HN2.out] at dR
  have dH := hcH a (by rw [line_len, HN2.out]; exact HPN.out)
  rw [line_at _ (show a < t2.n by rw [HN2.out]; exact HPN.out), HHV.out] at dH
  clear hcH hruR hrlR
  go_wp2_with fail
  refine wp_region_plan (Chg NoF y1) 12 [(0,true),(1,true),(2,true),(3,true),(4,true),(5,true),(6,true),(7,true),(8,true),(9,true),(10,true),(11,true)] mixed (by kernel_rfl) (Chg.refl _ _).drew ?_
  simp only [planOps, List.map_cons, List.map_nil, List.getElem?_cons_zero, List.getElem?_cons_succ, Option.getD_some]
  generalize hops : List.toArray _ = ops
  iterate 12 (refine wpPlan_quiet (v := ?_) rfl (fun _ _ _ h => h) (by intro w1 hS; have s0 := hS.cell_some dU (fun h => h); have s1 := hS.cell_some q2 (fun h => h); have s2 := hS.cell_some dR (fun h => h); have s3 := hS.cell_some dH (fun h => h); clear hS; go_simp; with_reducible rfl) ?_; (simp only [Act.put, List.setIfInBounds_toArray, List.set_cons_zero, List.set_cons_succ]))
  clear hops
  refine wpPlan_nil ?_
  have HBD := Lib.hid (HB2.out.no ((Chg.refl NoF y1).drew))
  have HUD : Hid (Rd (In S w w.heap.size (w.heap.size + 1)) y1.drew (.slice (some ⟨bU, oU, none⟩) (tl + 1) cU) (x :: t)) := Lib.hid (HU5.out.keep ((Chg.refl NoF y1).drew) (fun _ _ h => h))
  clear q2 dR dH dU HU5 HRR HRU HB2
  generalize y1.drew = wd at *
  obtain ⟨sz, HSZ⟩ : ∃ zz, Hid ({ t2 with had := put2 t2.had b a (max hv x) } = zz) := ⟨_, Lib.hid rfl⟩
  have HNZ : Hid (sz.n = n) := Lib.hid (by rw [← HSZ.out]; exact HN2.out)
  go_upto_if 61 with fail
  go_cut [8] (fun v wx => v = .slice (some ⟨bU, oU, none⟩) (tl + 1) cU ∧ ∃ (h1 : Option Addr) (h2 : Nat), Hid (Bx S w wx w.heap.size (w.heap.size + 1) [.int .i64 (n : Int), .slice sa n sc, .slice h1 n h2, .int .i64 ho, .int .i64 tg, .slice va n vc, .slice qa qn qc, .slice a1 nn c1] [.int .i64 0, .slice none 0 0, .slice none 0 0, .int .i64 0, .int .i64 0, .slice none 0 0, .slice none 0 0, .slice none 0 0] (tf sz)))
  case first =>
    have dU : wd.cell? ⟨bU, oU, none⟩ = some (.int .i64 x) := by
      obtain ⟨b1, o1, c1, e1, -, hc1⟩ := HUD.out.form (by simp)
      simp only [Value.slice.injEq, Option.some.injEq, Addr.mk.injEq, and_true] at e1
      obtain ⟨⟨rfl, rfl⟩, -, -⟩ := e1
      have := hc1 0 (by simp)
      rw [show (x :: t).getD 0 0 = x from rfl, Nat.add_zero] at this
      exact this
    have q2 : wd.cell? ⟨w.heap.size, 2, none⟩ = some (.slice (some ⟨bR, oR, none⟩) n hc) := HBD.out.ref.bB.cell 2
    have HRR : Hid (Rd2 (In S w w.heap.size (w.heap.size + 1)) wd (.slice (some ⟨bR, oR, none⟩) n hc) (t2.hadL)) := Lib.hid (HBD.out.at (f := .r (t2.hadL)) 2 rfl rfl)
    obtain ⟨bR, oR, cR, uR, eR, dR, hruR, hrlR⟩ := HRR.out.at (Chg.refl NoF wd) (fun _ _ h => h) (j := b) (by rw [t2.hadL_len, HN2.out]; exact HQN.out)
    rw [t2.hadL_len, HN2.out] at eR
    simp only [Value.slice.injEq, Option.some.injEq, Addr.mk.injEq, and_true] at eR
    obtain ⟨⟨rfl, rfl⟩, -, rfl⟩ := eR
    rw [t2.hadL_at (show b < t2.n by rw [HN2.out]; exact HQN.out)] at hruR hrlR
    obtain ⟨bH, oH, cH, rfl, -, hcH⟩ := hruR.form (by rw [line_len, HN2.out]; have := HQN.out; omega)
    have HRU := Lib.hid (Rd.relen hruR (show (line t2.n (t2.had b)).length = n by rw [line_len, HN2.out]))
    rw [line_len, HN2.out] at dR
    have dH := hcH a (by rw [line_len, HN2.out]; exact HPN.out)
    rw [line_at _ (show a < t2.n by rw [HN2.out]; exact HPN.out), HHV.out] at dH
    clear hcH hruR hrlR
    by_cases hmx : hv < x
    · have hd : decide (hv < x) = true := decide_eq_true hmx
      have HMX : Hid (max hv x = x) := Lib.hid (by omega)
      go_wp2_with fail
      refine wp_region_plan (Chg NoF wd) 15 [(0,true),(1,true),(2,true),(3,true),(4,true),(5,true),(6,true),(7,true),(8,true),(9,true),(10,true),(11,true),(12,false),(13,false),(14,true),(15,false)] mixed (by kernel_rfl) (Chg.refl _ _).drew ?_
      simp only [planOps, List.map_cons, List.map_nil, List.getElem?_cons_zero, List.getElem?_cons_succ, Option.getD_some]
      generalize hops : List.toArray _ = ops
      iterate 12 (refine wpPlan_quiet (v := ?_) rfl (fun _ _ _ h => h) (by intro w1 hS; have s0 := hS.cell_some q2 (fun h => h); have s1 := hS.cell_some dR (fun h => h); have s2 := hS.cell_some dU (fun h => h); clear hS; go_simp; with_reducible rfl) ?_; (simp only [Act.put, List.setIfInBounds_toArray, List.set_cons_zero, List.set_cons_succ]))
      refine wpPlan_loud rfl (fun K hK => ?_)
      go_simp
      have HD3 := Lib.hid (HBD.out.no ((Chg.refl NoF wd).drew))
      refine (set_ref (In S w w.heap.size (w.heap.size + 1)) _ (line t2.n (t2.had b)) a (x) _ (HRU.out.keep ((Chg.refl NoF wd).drew) (fun _ _ h => h)) (by rw [line_len, HN2.out]; exact HPN.out) (by rw [line_len, HN2.out]; have := H5.out; omega)).mono ?_
      rintro e x3 ⟨v3, rfl, hr3, hc3⟩
      have HL3 : Hid (((line t2.n (t2.had b)).set a (x)).length = n) := Lib.hid (by rw [List.length_set, line_len, HN2.out])
      obtain ⟨a3, c3, e3⟩ := hr3.val
      rw [HL3.out] at e3
      subst e3
      have HC3 : Hid (Chg NoF wd x3) := Lib.hid (((Chg.refl NoF wd).drew).trans hc3)
      have HX3 := Lib.hid (HD3.out.told (f := .l ((line t2.n (t2.had b)).set a (x))) hr3)
      have HK3 := Lib.hid (HBD.out.no HC3.out)
      refine hK _ _ (fun _ => HC3.out) ?_
      clear hK K hr3 hc3 HD3
      (try simp only [Act.put, List.setIfInBounds_toArray, List.set_cons_zero, List.set_cons_succ])
      refine wpPlan_loud rfl (fun K hK => ?_)
      go_simp
      have HD4 := Lib.hid (HBD.out.no (HC3.out))
      refine (rows_ref (In S w w.heap.size (w.heap.size + 1)) _ _ t2.hadL b ((line t2.n (t2.had b)).set a (x)) x3 (HRR.out.keep HC3.out (fun _ _ h => h)) HX3.out (by rw [HL3.out]; have := H5.out; omega) (by rw [t2.hadL_len, HN2.out]; exact HQN.out) (by rw [t2.hadL_len, HN2.out]; have := H5.out; omega)).mono ?_
      rintro e x4 ⟨v4, rfl, hr4, hc4⟩
      have HL4 : Hid ((t2.hadL.set b ((line t2.n (t2.had b)).set a (x))).length = n) := Lib.hid (by rw [List.length_set, t2.hadL_len, HN2.out])
      obtain ⟨a4, c4, e4⟩ := hr4.val
      rw [HL4.out] at e4
      subst e4
      have HC4 : Hid (Chg NoF wd x4) := Lib.hid ((HC3.out).trans hc4)
      have HX4 := Lib.hid (HD4.out.told (f := .r (t2.hadL.set b ((line t2.n (t2.had b)).set a (x)))) hr4)
      have HK4 := Lib.hid (HBD.out.no HC4.out)
      refine hK _ _ (fun _ => HC4.out) ?_
      clear hK K hr4 hc4 HD4
      (try simp only [Act.put, List.setIfInBounds_toArray, List.set_cons_zero, List.set_cons_succ])
      (refine wpPlan_quiet (v := ?_) rfl (fun _ _ _ h => h) (by intro w1 hS; clear hS; go_simp; with_reducible rfl) ?_; (simp only [Act.put, List.setIfInBounds_toArray, List.set_cons_zero, List.set_cons_succ]))
      refine wpPlan_loud rfl (fun K hK => ?_)
      have sx : x4.cell? ⟨w.heap.size, 2, none⟩ = some (.slice (some ⟨bR, oR, none⟩) n hc) := HK4.out.ref.bB.cell 2
      have zx := HK4.out.ref.bB.frozen 2
      go_simp
      refine hK _ _ (fun h => absurd rfl h) ?_
      clear hK K
      clear hops
      refine wpPlan_nil ?_
      obtain ⟨t5, HS5⟩ : ∃ zz, Hid ({ t2 with had := put2 t2.had b a (x) } = zz) := ⟨_, Lib.hid rfl⟩
      have HN5 : Hid (t5.n = n) := Lib.hid (by rw [← HS5.out]; exact HN2.out)
      have HB5 : Hid (Bx S w (x4.setCell ⟨w.heap.size, 2, none⟩ (.slice a4 n c4)) w.heap.size (w.heap.size + 1) [.int .i64 (n : Int), .slice sa n sc, .slice a4 n c4, .int .i64 ho, .int .i64 tg, .slice va n vc, .slice qa qn qc, .slice a1 nn c1] [.int .i64 0, .slice none 0 0, .slice none 0 0, .int .i64 0, .int .i64 0, .slice none 0 0, .slice none 0 0, .slice none 0 0] (tf t5)) := Lib.hid (by
        have h1 := HK4.out.set 2 _ _ HX4.out
        rw [tf_had] at h1
        rw [← HS5.out]
        exact h1)
      clear sx zx HX4 HC4 HK4 HBD dR dH HRR HRU HX3 HC3 HK3 q2 dU hd
      generalize x4.setCell _ _ = y4 at *
      have HBF : Hid (Bx S w y4 w.heap.size (w.heap.size + 1) [.int .i64 (n : Int), .slice sa n sc, .slice a4 n c4, .int .i64 ho, .int .i64 tg, .slice va n vc, .slice qa qn qc, .slice a1 nn c1] [.int .i64 0, .slice none 0 0, .slice none 0 0, .int .i64 0, .int .i64 0, .slice none 0 0, .slice none 0 0, .slice none 0 0] (tf sz)) := Lib.hid (by rw [← HSZ.out, HMX.out, HS5.out]; exact HB5.out)
      go_wp2_with fail
      go_meet
      case rel => exact ⟨rfl, _, _, HBF⟩
    · have hd : decide (hv < x) = false := decide_eq_false hmx
      have HBF : Hid (Bx S w wd w.heap.size (w.heap.size + 1) [.int .i64 (n : Int), .slice sa n sc, .slice (some ⟨bR, oR, none⟩) n hc, .int .i64 ho, .int .i64 tg, .slice va n vc, .slice qa qn qc, .slice a1 nn c1] [.int .i64 0, .slice none 0 0, .slice none 0 0, .int .i64 0, .int .i64 0, .slice none 0 0, .slice none 0 0, .slice none 0 0] (tf sz)) := Lib.hid (by
        have e : sz = t2 := by
          rw [← HSZ.out]
          have e2 : put2 t2.had b a (max hv x) = t2.had := by
            funext p q
            by_cases eq : p = b ∧ q = a
            · obtain ⟨rfl, rfl⟩ := eq; rw [put2_self, HHV.out]; omega
            · rw [put2_ne _ _ (by omega)]
          rw [e2]
        rw [e]; exact HBD.out)
      go_wp2_with fail
      go_meet
      case rel => exact ⟨rfl, _, _, HBF⟩
  case rest =>
  obtain ⟨rfl, h1, h2, HBY⟩ := hcut
  clear HBD HUD
  have HZ1 : Hid (sz.holder = ho ∧ sz.inn = s.inn ∧ sz.served = s.served ∧ sz.queue = s.queue ∧ sz.had b a = max hv x) := Lib.hid (by rw [← HSZ.out, ← HS2.out]; exact ⟨HHO.out, rfl, rfl, rfl, put2_self _ _ _ _⟩)
  have HH1 : Hid (sz = (s.pop a b).hear1 a b x) := Lib.hid (by rw [← HSZ.out, ← HHV.out, HS2.out]; rfl)
  have HHE : Hid ((s.pop a b).hear a b x = if ho = b ∧ sz.inn b = false ∧ max hv x = sz.served a + 1 then ({ sz with queue := sz.queue ++ [(a : Int)] } : TNet).give else sz) := Lib.hid (by unfold TNet.hear; rw [← HH1.out, show (s.pop a b).holder = ho from HHO.out, show (s.pop a b).had b a = hv by rw [← HHV.out, ← HS2.out], show (s.pop a b).inn b = sz.inn b by rw [HZ1.out.2.1]; rfl, show (s.pop a b).served a = sz.served a by rw [HZ1.out.2.2.1]; rfl, show (s.pop a b).queue = sz.queue by rw [HZ1.out.2.2.2.1]; rfl])
  obtain ⟨mv, HMV⟩ : ∃ zz, Hid (max hv x = zz) := ⟨_, Lib.hid rfl⟩
  have hmv : 0 ≤ mv ∧ mv ≤ 1000 := by rw [← HMV.out]; omega
  obtain ⟨hmv1, hmv2⟩ := hmv
  have HHV2 : Hid (sz.had b a = mv) := Lib.hid (by rw [HZ1.out.2.2.2.2, HMV.out])
  rw [HMV.out] at HHE
  obtain ⟨sv, HSV⟩ : ∃ zz, Hid (sz.stOf b = zz) := ⟨_, Lib.hid rfl⟩
  obtain ⟨sr, HSR⟩ : ∃ zz, Hid (sz.served a = zz) := ⟨_, Lib.hid rfl⟩
  have hsr : 0 ≤ sr ∧ sr ≤ 1000 := by rw [← HSR.out, HZ1.out.2.2.1]; exact HS.out.sane.srv a HPS.out
  obtain ⟨hsr1, hsr2⟩ := hsr
  have hwr : IntKind.i64.wrap (sr + 1) = sr + 1 := IntWalk.i64_in _ (by omega)
  have q3 : wc.cell? ⟨w.heap.size, 3, none⟩ = some (.int .i64 ho) := HBY.out.ref.bB.cell 3
  have q1 : wc.cell? ⟨w.heap.size, 1, none⟩ = some (.slice sa n sc) := HBY.out.ref.bB.cell 1
  have q2 : wc.cell? ⟨w.heap.size, 2, none⟩ = some (.slice h1 n h2) := HBY.out.ref.bB.cell 2
  have q5 : wc.cell? ⟨w.heap.size, 5, none⟩ = some (.slice va n vc) := HBY.out.ref.bB.cell 5
  have HRS : Hid (Rd (In S w w.heap.size (w.heap.size + 1)) wc (.slice sa n sc) (line sz.n sz.stOf)) := Lib.hid (HBY.out.at (f := .l (line sz.n sz.stOf)) 1 rfl rfl)
  obtain ⟨bS, oS, cS, eS, -, hcS⟩ := HRS.out.form (by rw [line_len, HNZ.out]; have := HQN.out; omega)
  rw [line_len, HNZ.out] at eS
  simp only [Value.slice.injEq] at eS
  obtain ⟨rfl, -, rfl⟩ := eS
  have dS := hcS b (by rw [line_len]; exact (by rw [HNZ.out]; exact HQN.out))
  rw [line_at _ (show b < sz.n by rw [HNZ.out]; exact HQN.out), HSV.out] at dS
  clear hcS
  have HRR : Hid (Rd2 (In S w w.heap.size (w.heap.size + 1)) wc (.slice h1 n h2) (sz.hadL)) := Lib.hid (HBY.out.at (f := .r (sz.hadL)) 2 rfl rfl)
  obtain ⟨bR, oR, cR, uR, eR, dR, hruR, hrlR⟩ := HRR.out.at (Chg.refl NoF wc) (fun _ _ h => h) (j := b) (by rw [sz.hadL_len, HNZ.out]; exact HQN.out)
  rw [sz.hadL_len, HNZ.out] at eR
  simp only [Value.slice.injEq] at eR
  obtain ⟨rfl, -, rfl⟩ := eR
  rw [sz.hadL_at (show b < sz.n by rw [HNZ.out]; exact HQN.out)] at hruR hrlR
  obtain ⟨bH, oH, cH, rfl, -, hcH⟩ := hruR.form (by rw [line_len, HNZ.out]; have := HQN.out; omega)
  have HRU := Lib.hid (Rd.relen hruR (show (line sz.n (sz.had b)).length = n by rw [line_len, HNZ.out]))
  rw [line_len, HNZ.out] at dR
  have dH := hcH a (by rw [line_len, HNZ.out]; exact HPN.out)
  rw [line_at _ (show a < sz.n by rw [HNZ.out]; exact HPN.out), HHV2.out] at dH
  clear hcH hruR hrlR
  have HRV : Hid (Rd (In S w w.heap.size (w.heap.size + 1)) wc (.slice va n vc) (line sz.n sz.served)) := Lib.hid (HBY.out.at (f := .l (line sz.n sz.served)) 5 rfl rfl)
  obtain ⟨bV, oV, cV, eV, -, hcV⟩ := HRV.out.form (by rw [line_len, HNZ.out]; have := HPN.out; omega)
  rw [line_len, HNZ.out] at eV
  simp only [Value.slice.injEq] at eV
  obtain ⟨rfl, -, rfl⟩ := eV
  have dV := hcV a (by rw [line_len]; exact (by rw [HNZ.out]; exact HPN.out))
  rw [line_at _ (show a < sz.n by rw [HNZ.out]; exact HPN.out), HSR.out] at dV
  clear hcV
  by_cases hc1 : ho = b
  case neg =>
    have e1 : (ho == (b : Int)) = false := by rw [beq_eq_false_iff_ne]; exact hc1
    have HFI : Hid (s.step a b = sz) := Lib.hid (by rw [HDO.out, HHE.out, if_neg]; exact fun h => hc1 h.1)
    clear hx0 hx1 hv1 hv2
    go_wp2_with fail
    refine wp_region_plan (Chg NoF wc) 29 [(0,true),(1,true),(2,true),(3,true),(4,true),(5,true),(6,true),(7,true),(8,true),(9,true),(10,true),(11,true),(12,true),(13,true),(14,true),(15,true),(16,true),(17,true),(18,true),(19,true),(20,true),(21,true),(22,true),(23,true),(24,true),(25,true),(26,true),(27,true),(28,true)] mixed (by kernel_rfl) (Chg.refl _ _).drew ?_
    simp only [planOps, List.map_cons, List.map_nil, List.getElem?_cons_zero, List.getElem?_cons_succ, Option.getD_some]
    generalize hops : List.toArray _ = ops
    iterate 5 (refine wpPlan_quiet (v := ?_) rfl (fun _ _ _ h => h) (by intro w1 hS; have s0 := hS.cell_some q3 (fun h => h); clear hS; go_simp; with_reducible rfl) ?_; (simp only [Act.put, List.setIfInBounds_toArray, List.set_cons_zero, List.set_cons_succ]))
    iterate 6 (refine wpPlan_skip (by rw [← hops]; rfl) (fun _ _ _ h => h) ?_; (simp only [Act.put, List.setIfInBounds_toArray, List.set_cons_zero, List.set_cons_succ]))
    iterate 2 (refine wpPlan_quiet (v := ?_) rfl (fun _ _ _ h => h) (by intro w1 hS; clear hS; go_simp; with_reducible rfl) ?_; (simp only [Act.put, List.setIfInBounds_toArray, List.set_cons_zero, List.set_cons_succ]))
    iterate 15 (refine wpPlan_skip (by rw [← hops]; rfl) (fun _ _ _ h => h) ?_; (simp only [Act.put, List.setIfInBounds_toArray, List.set_cons_zero, List.set_cons_succ]))
    (refine wpPlan_quiet (v := ?_) rfl (fun _ _ _ h => h) (by intro w1 hS; clear hS; go_simp; with_reducible rfl) ?_; (simp only [Act.put, List.setIfInBounds_toArray, List.set_cons_zero, List.set_cons_succ]))
    clear hops
    refine wpPlan_nil ?_
    have HBE := Lib.hid (HBY.out.no ((Chg.refl NoF wc).drew))
    clear q3 q1 q2 q5 dS dR dH dV hwr e1
    generalize wc.drew = we at *
    go_wp2_with (first | (refine wpList_plain rfl (fun K hK => wp_loadT aggToken _ rfl w.heap.size [.int .i64 (n : Int), .slice (some ⟨bS, oS, none⟩) n sc, .slice (some ⟨bR, oR, none⟩) n h2, .int .i64 ho, .int .i64 tg, .slice (some ⟨bV, oV, none⟩) n vc, .slice qa qn qc, .slice a1 nn c1] (by rfl) HBE.out.ref.bB rfl ?_); refine hK _ _ ?_; clear hK) | (refine wpList_plain rfl (fun K hK => wp_storeT aggToken _ _ rfl (w.heap.size + 1) [.int .i64 (n : Int), .slice (some ⟨bS, oS, none⟩) n sc, .slice (some ⟨bR, oR, none⟩) n h2, .int .i64 ho, .int .i64 tg, .slice (some ⟨bV, oV, none⟩) n vc, .slice qa qn qc, .slice a1 nn c1] _ (by rfl) (by rfl) rfl HBE.out.ref.bR rfl rfl ?_); intro wz hBz hcz; have HBW := Lib.hid (HBE.out.setR hBz hcz); clear hBz hcz; refine hK _ _ ?_; clear hK))
    (try simp only [Exit.inBlock, Exit.then]); refine bodyPost_ret (results_cell2 aggToken rfl _ _ _ _ (by rfl) HBW.out.ref.bR rfl) rfl ?_
    rw [HE.out, HFI.out]
    exact ⟨_, rfl, HBW.out.ans⟩
  case pos =>
  have e1 : (ho == (b : Int)) = true := by rw [beq_iff_eq]; exact hc1
  have HC1 := Lib.hid hc1
  clear hc1
  by_cases hc2 : sv = 2
  case pos =>
    have e2 : (sv != 2) = false := by rw [hc2]; rfl
    have HFI : Hid (s.step a b = sz) := Lib.hid (by rw [HDO.out, HHE.out, if_neg]; intro h; have h1 := stOf_two.1 (HSV.out.trans hc2); rw [h.2.1] at h1; cases h1)
    clear hx0 hx1 hv1 hv2
    go_wp2_with fail
    refine wp_region_plan (Chg NoF wc) 29 [(0,true),(1,true),(2,true),(3,true),(4,true),(5,true),(6,true),(7,true),(8,true),(9,true),(10,true),(11,true),(12,true),(13,true),(14,true),(15,true),(16,true),(17,true),(18,true),(19,true),(20,true),(21,true),(22,true),(23,true),(24,true),(25,true),(26,true),(27,true),(28,true)] mixed (by kernel_rfl) (Chg.refl _ _).drew ?_
    simp only [planOps, List.map_cons, List.map_nil, List.getElem?_cons_zero, List.getElem?_cons_succ, Option.getD_some]
    generalize hops : List.toArray _ = ops
    iterate 5 (refine wpPlan_quiet (v := ?_) rfl (fun _ _ _ h => h) (by intro w1 hS; have s0 := hS.cell_some q3 (fun h => h); clear hS; go_simp; with_reducible rfl) ?_; (simp only [Act.put, List.setIfInBounds_toArray, List.set_cons_zero, List.set_cons_succ]))
    iterate 6 (refine wpPlan_quietG (v := ?_) (by rw [← hops]; rfl) (fun _ _ _ h => h) (by intro w1 hS; have s0 := hS.cell_some q1 (fun h => h); have s1 := hS.cell_some dS (fun h => h); clear hS; go_simp; with_reducible rfl) ?_; (simp only [Act.put, List.setIfInBounds_toArray, List.set_cons_zero, List.set_cons_succ]))
    iterate 2 (refine wpPlan_quiet (v := ?_) rfl (fun _ _ _ h => h) (by intro w1 hS; clear hS; go_simp; with_reducible rfl) ?_; (simp only [Act.put, List.setIfInBounds_toArray, List.set_cons_zero, List.set_cons_succ]))
    iterate 15 (refine wpPlan_skip (by rw [← hops]; rfl) (fun _ _ _ h => h) ?_; (simp only [Act.put, List.setIfInBounds_toArray, List.set_cons_zero, List.set_cons_succ]))
    (refine wpPlan_quiet (v := ?_) rfl (fun _ _ _ h => h) (by intro w1 hS; clear hS; go_simp; with_reducible rfl) ?_; (simp only [Act.put, List.setIfInBounds_toArray, List.set_cons_zero, List.set_cons_succ]))
    clear hops
    refine wpPlan_nil ?_
    have HBE := Lib.hid (HBY.out.no ((Chg.refl NoF wc).drew))
    clear q3 q1 q2 q5 dS dR dH dV hwr e1 e2
    generalize wc.drew = we at *
    go_wp2_with (first | (refine wpList_plain rfl (fun K hK => wp_loadT aggToken _ rfl w.heap.size [.int .i64 (n : Int), .slice (some ⟨bS, oS, none⟩) n sc, .slice (some ⟨bR, oR, none⟩) n h2, .int .i64 ho, .int .i64 tg, .slice (some ⟨bV, oV, none⟩) n vc, .slice qa qn qc, .slice a1 nn c1] (by rfl) HBE.out.ref.bB rfl ?_); refine hK _ _ ?_; clear hK) | (refine wpList_plain rfl (fun K hK => wp_storeT aggToken _ _ rfl (w.heap.size + 1) [.int .i64 (n : Int), .slice (some ⟨bS, oS, none⟩) n sc, .slice (some ⟨bR, oR, none⟩) n h2, .int .i64 ho, .int .i64 tg, .slice (some ⟨bV, oV, none⟩) n vc, .slice qa qn qc, .slice a1 nn c1] _ (by rfl) (by rfl) rfl HBE.out.ref.bR rfl rfl ?_); intro wz hBz hcz; have HBW := Lib.hid (HBE.out.setR hBz hcz); clear hBz hcz; refine hK _ _ ?_; clear hK))
    (try simp only [Exit.inBlock, Exit.then]); refine bodyPost_ret (results_cell2 aggToken rfl _ _ _ _ (by rfl) HBW.out.ref.bR rfl) rfl ?_
    rw [HE.out, HFI.out]
    exact ⟨_, rfl, HBW.out.ans⟩
  case neg =>
  have e2 : (sv != 2) = true := by rw [bne_iff_ne]; exact hc2
  have HC2 : Hid (sz.inn b = false) := Lib.hid (by cases hx : sz.inn b with | false => rfl | true => exact absurd (HSV.out ▸ stOf_two.2 hx) hc2)
  clear hc2
  by_cases hc3 : mv = sr + 1
  case neg =>
    have e3 : (mv == sr + 1) = false := by rw [beq_eq_false_iff_ne]; exact hc3
    have HFI : Hid (s.step a b = sz) := Lib.hid (by rw [HDO.out, HHE.out, if_neg]; intro h; have h1 := h.2.2; rw [HSR.out] at h1; exact hc3 h1)
    clear hx0 hx1 hv1 hv2
    go_wp2_with fail
    refine wp_region_plan (Chg NoF wc) 29 [(0,true),(1,true),(2,true),(3,true),(4,true),(5,true),(6,true),(7,true),(8,true),(9,true),(10,true),(11,true),(12,true),(13,true),(14,true),(15,true),(16,true),(17,true),(18,true),(19,true),(20,true),(21,true),(22,true),(23,true),(24,true),(25,true),(26,true),(27,true),(28,true)] mixed (by kernel_rfl) (Chg.refl _ _).drew ?_
    simp only [planOps, List.map_cons, List.map_nil, List.getElem?_cons_zero, List.getElem?_cons_succ, Option.getD_some]
    generalize hops : List.toArray _ = ops
    iterate 5 (refine wpPlan_quiet (v := ?_) rfl (fun _ _ _ h => h) (by intro w1 hS; have s0 := hS.cell_some q3 (fun h => h); clear hS; go_simp; with_reducible rfl) ?_; (simp only [Act.put, List.setIfInBounds_toArray, List.set_cons_zero, List.set_cons_succ]))
    iterate 6 (refine wpPlan_quietG (v := ?_) (by rw [← hops]; rfl) (fun _ _ _ h => h) (by intro w1 hS; have s0 := hS.cell_some q1 (fun h => h); have s1 := hS.cell_some dS (fun h => h); clear hS; go_simp; with_reducible rfl) ?_; (simp only [Act.put, List.setIfInBounds_toArray, List.set_cons_zero, List.set_cons_succ]))
    iterate 2 (refine wpPlan_quiet (v := ?_) rfl (fun _ _ _ h => h) (by intro w1 hS; clear hS; go_simp; with_reducible rfl) ?_; (simp only [Act.put, List.setIfInBounds_toArray, List.set_cons_zero, List.set_cons_succ]))
    iterate 15 (refine wpPlan_quietG (v := ?_) (by rw [← hops]; rfl) (fun _ _ _ h => h) (by intro w1 hS; have s0 := hS.cell_some q2 (fun h => h); have s1 := hS.cell_some dR (fun h => h); have s2 := hS.cell_some dH (fun h => h); have s3 := hS.cell_some q5 (fun h => h); have s4 := hS.cell_some dV (fun h => h); clear hS; go_simp; with_reducible rfl) ?_; (simp only [Act.put, List.setIfInBounds_toArray, List.set_cons_zero, List.set_cons_succ]))
    (refine wpPlan_quiet (v := ?_) rfl (fun _ _ _ h => h) (by intro w1 hS; clear hS; go_simp; with_reducible rfl) ?_; (simp only [Act.put, List.setIfInBounds_toArray, List.set_cons_zero, List.set_cons_succ]))
    clear hops
    refine wpPlan_nil ?_
    have HBE := Lib.hid (HBY.out.no ((Chg.refl NoF wc).drew))
    clear q3 q1 q2 q5 dS dR dH dV hwr e1 e2 e3
    generalize wc.drew = we at *
    go_wp2_with (first | (refine wpList_plain rfl (fun K hK => wp_loadT aggToken _ rfl w.heap.size [.int .i64 (n : Int), .slice (some ⟨bS, oS, none⟩) n sc, .slice (some ⟨bR, oR, none⟩) n h2, .int .i64 ho, .int .i64 tg, .slice (some ⟨bV, oV, none⟩) n vc, .slice qa qn qc, .slice a1 nn c1] (by rfl) HBE.out.ref.bB rfl ?_); refine hK _ _ ?_; clear hK) | (refine wpList_plain rfl (fun K hK => wp_storeT aggToken _ _ rfl (w.heap.size + 1) [.int .i64 (n : Int), .slice (some ⟨bS, oS, none⟩) n sc, .slice (some ⟨bR, oR, none⟩) n h2, .int .i64 ho, .int .i64 tg, .slice (some ⟨bV, oV, none⟩) n vc, .slice qa qn qc, .slice a1 nn c1] _ (by rfl) (by rfl) rfl HBE.out.ref.bR rfl rfl ?_); intro wz hBz hcz; have HBW := Lib.hid (HBE.out.setR hBz hcz); clear hBz hcz; refine hK _ _ ?_; clear hK))
    (try simp only [Exit.inBlock, Exit.then]); refine bodyPost_ret (results_cell2 aggToken rfl _ _ _ _ (by rfl) HBW.out.ref.bR rfl) rfl ?_
    rw [HE.out, HFI.out]
    exact ⟨_, rfl, HBW.out.ans⟩
  case pos =>
  have e3 : (mv == sr + 1) = true := by rw [beq_iff_eq]; exact hc3
  have HFI : Hid (s.step a b = ({ sz with queue := sz.queue ++ [(a : Int)] } : TNet).give) := Lib.hid (by rw [HDO.out, HHE.out, if_pos ⟨HC1.out, HC2.out, by rw [HSR.out]; exact hc3⟩])
  have HQZ : Hid (sz.queue.length = qn) := Lib.hid (by rw [HZ1.out.2.2.2.1]; exact HQL.out)
  have HQB : Hid (qn < 500) := Lib.hid (by rw [← HQL.out]; exact HS.out.sane.que)
  clear hc3 hx0 hx1 hv1 hv2
  go_wp2_with fail
  refine wp_region_plan (Chg NoF wc) 29 [(0,true),(1,true),(2,true),(3,true),(4,true),(5,true),(6,true),(7,true),(8,true),(9,true),(10,true),(11,true),(12,true),(13,true),(14,true),(15,true),(16,true),(17,true),(18,true),(19,true),(20,true),(21,true),(22,true),(23,true),(24,true),(25,true),(26,true),(27,true),(28,true)] mixed (by kernel_rfl) (Chg.refl _ _).drew ?_
  simp only [planOps, List.map_cons, List.map_nil, List.getElem?_cons_zero, List.getElem?_cons_succ, Option.getD_some]
  generalize hops : List.toArray _ = ops
  iterate 5 (refine wpPlan_quiet (v := ?_) rfl (fun _ _ _ h => h) (by intro w1 hS; have s0 := hS.cell_some q3 (fun h => h); clear hS; go_simp; with_reducible rfl) ?_; (simp only [Act.put, List.setIfInBounds_toArray, List.set_cons_zero, List.set_cons_succ]))
  iterate 6 (refine wpPlan_quietG (v := ?_) (by rw [← hops]; rfl) (fun _ _ _ h => h) (by intro w1 hS; have s0 := hS.cell_some q1 (fun h => h); have s1 := hS.cell_some dS (fun h => h); clear hS; go_simp; with_reducible rfl) ?_; (simp only [Act.put, List.setIfInBounds_toArray, List.set_cons_zero, List.set_cons_succ]))
  iterate 2 (refine wpPlan_quiet (v := ?_) rfl (fun _ _ _ h => h) (by intro w1 hS; clear hS; go_simp; with_reducible rfl) ?_; (simp only [Act.put, List.setIfInBounds_toArray, List.set_cons_zero, List.set_cons_succ]))
  iterate 15 (refine wpPlan_quietG (v := ?_) (by rw [← hops]; rfl) (fun _ _ _ h => h) (by intro w1 hS; have s0 := hS.cell_some q2 (fun h => h); have s1 := hS.cell_some dR (fun h => h); have s2 := hS.cell_some dH (fun h => h); have s3 := hS.cell_some q5 (fun h => h); have s4 := hS.cell_some dV (fun h => h); clear hS; go_simp; with_reducible rfl) ?_; (simp only [Act.put, List.setIfInBounds_toArray, List.set_cons_zero, List.set_cons_succ]))
  (refine wpPlan_quiet (v := ?_) rfl (fun _ _ _ h => h) (by intro w1 hS; clear hS; go_simp; with_reducible rfl) ?_; (simp only [Act.put, List.setIfInBounds_toArray, List.set_cons_zero, List.set_cons_succ]))
  clear hops
  refine wpPlan_nil ?_
  have HBE := Lib.hid (HBY.out.no ((Chg.refl NoF wc).drew))
  clear q3 q1 q2 q5 dS dR dH dV hwr e1 e2 e3
  generalize wc.drew = we at *
  have q6 : we.cell? ⟨w.heap.size, 6, none⟩ = some (.slice qa qn qc) := HBE.out.ref.bB.cell 6
  have HRQQ : Hid (Rd (In S w w.heap.size (w.heap.size + 1)) we (.slice qa qn qc) (sz.queue)) := Lib.hid (HBE.out.at (f := .l (sz.queue)) 6 rfl rfl)
  go_wp2_with fail
  refine (more_ref (In S w w.heap.size (w.heap.size + 1)) _ sz.queue (a : Int) we HRQQ.out (by rw [HQZ.out]; have := HQB.out; omega)).mono ?_
  rintro e w8 ⟨v8, rfl, hr8, hc8⟩
  have HL8 : Hid ((sz.queue ++ [(a : Int)]).length = qn + 1) := Lib.hid (by rw [List.length_append, HQZ.out]; rfl)
  obtain ⟨a8, c8, e8⟩ := hr8.val
  rw [HL8.out] at e8
  subst e8
  have HX8 := Lib.hid (HBE.out.told (f := .l _) hr8)
  have HN8 := Lib.hid (HBE.out.no hc8)
  obtain ⟨s9, HS9⟩ : ∃ zz, Hid ({ sz with queue := sz.queue ++ [(a : Int)] } = zz) := ⟨_, Lib.hid rfl⟩
  rw [HS9.out] at HFI
  have HBN : Hid (Bx S w (w8.setCell ⟨w.heap.size, 6, none⟩ (.slice a8 (qn + 1) c8)) w.heap.size (w.heap.size + 1) [.int .i64 (n : Int), .slice (some ⟨bS, oS, none⟩) n sc, .slice (some ⟨bR, oR, none⟩) n h2, .int .i64 ho, .int .i64 tg, .slice (some ⟨bV, oV, none⟩) n vc, .slice a8 (qn + 1) c8, .slice a1 nn c1] [.int .i64 0, .slice none 0 0, .slice none 0 0, .int .i64 0, .int .i64 0, .slice none 0 0, .slice none 0 0, .slice none 0 0] (tf s9)) := Lib.hid (by
    have h1 := HN8.out.set 6 _ _ HX8.out
    rw [tf_queue, HS9.out] at h1
    exact h1)
  have HN9 : Hid (s9.n = n ∧ s9.queue.length = qn + 1) := Lib.hid (by rw [← HS9.out]; exact ⟨HNZ.out, HL8.out⟩)
  clear hr8 hc8 q6 HBE HRQQ
  have q6 : w8.cell? ⟨w.heap.size, 6, none⟩ = some (.slice qa qn qc) := HN8.out.ref.bB.cell 6
  have z6 := HN8.out.ref.bB.frozen 6
  go_upto_region 11 with fail
  clear q6 z6 HN8
  generalize w8.setCell _ _ = wn at *
  go_wp2_with (refine wpList_plain rfl (fun K hK => wp_loadT aggToken _ rfl w.heap.size [.int .i64 (n : Int), .slice (some ⟨bS, oS, none⟩) n sc, .slice (some ⟨bR, oR, none⟩) n h2, .int .i64 ho, .int .i64 tg, .slice (some ⟨bV, oV, none⟩) n vc, .slice a8 (qn + 1) c8, .slice a1 nn c1] (by rfl) HBN.out.ref.bB rfl ?_); refine hK _ _ ?_; clear hK)
  refine (give_ref (In S w w.heap.size (w.heap.size + 1)) _ _ s9 HBN.out.fld (by rw [HN9.out.1]; exact H5.out) (by rw [HN9.out.2]; have := HQB.out; omega)).mono ?_
  rintro e w8 ⟨v8, rfl, us8, rfl, hr8, hc8⟩
  have HR8 := Lib.hid (HBN.out.toldS hr8)
  have HB8 := Lib.hid (HBN.out.no hc8)
  clear hr8 hc8
  go_wp2_with (refine wpList_plain rfl (fun K hK => wp_storeT aggToken _ _ rfl (w.heap.size + 1) us8 _ (by rfl) (by rfl) HR8.out.len HB8.out.ref.bR rfl HR8.out.one ?_); intro w9 hB9 hc9; have HB9 := Lib.hid hB9; have HC9 : Hid (Chg NoF w w9) := Lib.hid (HB8.out.ref.chg.trans2 hc9 fun i _ hi => .inr (by have hi : i = w.heap.size + 1 := hi; omega)); have HR9 : Hid (RdS (More S w) w9 us8 (tf s9.give)) := Lib.hid ((HR8.out.keep hc9 (fun b hb e => (HB8.out.notB b hb).2 e)).mono (fun b _ hb => hb.elim (fun h => .inl h.1) (fun h => .inr h.1))); clear hB9 hc9; refine hK _ _ ?_; clear hK)
  (try simp only [Exit.inBlock, Exit.then]); refine bodyPost_ret (results_cell2 aggToken rfl _ _ _ _ (by rfl) HB9.out HR8.out.len) rfl ?_
  exact ⟨_, by rw [HE.out]; rfl, us8, rfl, by rw [HFI.out]; exact HR9.out, HC9.out⟩

end Go.Proofs.YthblnljjhbdejaaDoor
