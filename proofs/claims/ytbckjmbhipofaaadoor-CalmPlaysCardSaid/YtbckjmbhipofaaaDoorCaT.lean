/-
  The document's answers about the net of work and thanks: a message that comes.
  Conditions: the answer's lists are read, and tell the program's net.
-/
import Derived.Test.YtbckjmbhipofaaaDoorCaS
namespace Go.Proofs.YtbckjmbhipofaaaDoor
open Go Go.RowKit

theorem pop_len (s : CNet) (a b p q : Nat) : ((s.pop a b).ways p q).length ≤ (s.ways p q).length := by
  show (put2 s.ways a b (s.ways a b).tail p q).length ≤ _
  by_cases e : p = a ∧ q = b
  · obtain ⟨rfl, rfl⟩ := e; rw [put2_self, List.length_tail]; omega
  · rw [put2_ne _ _ (by omega)]; exact Nat.le_refl _

set_option maxHeartbeats 8000000 in
set_option maxRecDepth 100000 in
theorem step_ref (S : Nat → Prop) (w : World) (us : List Value) (s : CNet) (h : RdS S w us (cf s)) (hs : CGood s) (p q : Int) :
    Calls Tryd.prog 11 #[.agg us.toArray, .int .i64 p, .int .i64 q] w (CAns S w (s.step p q) (s.stepErr p q)) := by
  have h5 := hs.n5
  obtain ⟨pa, pc, oa, oc, wa, wc, rfl⟩ := cf_opn h
  have HU := Lib.hid h
  obtain ⟨n, HN⟩ : ∃ n, Hid (s.n = n) := ⟨_, Lib.hid rfl⟩
  obtain ⟨m, HM⟩ : ∃ m, Hid (setB s.works s.n = m) := ⟨_, Lib.hid rfl⟩
  obtain ⟨nn, HNN⟩ : ∃ nn, Hid (n * n = nn) := ⟨_, Lib.hid rfl⟩
  obtain ⟨st, HST⟩ : ∃ st, Hid (s.sent = st) := ⟨_, Lib.hid rfl⟩
  obtain ⟨cl, HCL⟩ : ∃ cl, Hid (s.calm = cl) := ⟨_, Lib.hid rfl⟩
  have H5 : Hid (n ≤ 5) := Lib.hid (by rw [← HN.out]; exact h5)
  have HM32 : Hid (m < 32) := Lib.hid (by rw [← HM.out]; exact Nat.lt_of_lt_of_le (setB_lt _ _) (Nat.pow_le_pow_right (n := 2) (by omega) h5))
  have HN25 : Hid (nn ≤ 25) := Lib.hid (by rw [← HNN.out]; exact Nat.mul_le_mul H5.out H5.out)
  rw [HM.out, HN.out, HNN.out, HST.out, HCL.out] at HU ⊢
  clear h h5
  have HS := Lib.hid hs
  have hwn : wrap64 ((n : Int) - 1) = (n : Int) - 1 := IntWalk.wrap64_in _ (by have := H5.out; omega)
  have BAD : Hid (∀ x (w' : World), s.stepErr p q = x → x ≠ 0 → Bx S w w' w.heap.size (w.heap.size + 1) [.int .i64 (n : Int), .int .i64 (m : Int), .slice pa n pc, .slice oa n oc, .slice wa nn wc, .int .i64 st, .bool cl] [.int .i64 (n : Int), .int .i64 (m : Int), .slice pa n pc, .slice oa n oc, .slice wa nn wc, .int .i64 st, .bool cl] (cf s) → CAns S w (s.step p q) (s.stepErr p q) (.returned (.tuple #[.agg #[.int .i64 (n : Int), .int .i64 (m : Int), .slice pa n pc, .slice oa n oc, .slice wa nn wc, .int .i64 st, .bool cl], .int .i64 x])) w') := Lib.hid fun x w' he hx hR => by
    have h1 : s.step p q = s := by unfold CNet.step; rw [if_neg (by rw [he]; exact hx)]
    rw [h1, he]
    exact ⟨_, rfl, hR.ans⟩
  have HIp : Hid (inB p 0 ((n : Int) - 1) = s.is p) := Lib.hid (by rw [← HN.out]; exact s.is_in p)
  have HIq : Hid (inB q 0 ((n : Int) - 1) = s.is q) := Lib.hid (by rw [← HN.out]; exact s.is_in q)
  cases hip : s.is p with
  | false =>
    have HE : Hid (s.stepErr p q = 1) := Lib.hid (by unfold CNet.stepErr; rw [if_pos (.inl hip)])
    rw [hip] at HIp
    clear hip
    go_enter Tryd.func11, Tryd.ntmps11
    go_wp2_with fail
    refine (ref6In_any _ _ _ _).mono ?_
    rintro e w2 ⟨rfl, rfl⟩
    rw [HIp.out]
    have HB := Lib.hid (Bx.start w [.int .i64 (n : Int), .int .i64 (m : Int), .slice pa n pc, .slice oa n oc, .slice wa nn wc, .int .i64 st, .bool cl] [.int .i64 0, .int .i64 0, .slice none 0 0, .slice none 0 0, .slice none 0 0, .int .i64 0, .bool false] (cf s) HU.out 31 31)
    generalize ((w.alloc _).alloc _) = w2 at *
    go_wp2_with (first | (refine wpList_plain rfl (fun K hK => wp_loadT aggCalm _ rfl w.heap.size [.int .i64 (n : Int), .int .i64 (m : Int), .slice pa n pc, .slice oa n oc, .slice wa nn wc, .int .i64 st, .bool cl] (by rfl) HB.out.ref.bB rfl ?_); refine hK _ _ ?_; clear hK) | (refine wpList_plain rfl (fun K hK => wp_storeT aggCalm _ _ rfl (w.heap.size + 1) [.int .i64 (n : Int), .int .i64 (m : Int), .slice pa n pc, .slice oa n oc, .slice wa nn wc, .int .i64 st, .bool cl] _ (by rfl) (by rfl) rfl HB.out.ref.bR rfl rfl ?_); intro wz hBz hcz; have HB3 := Lib.hid (HB.out.setR hBz hcz); clear hBz hcz; refine hK _ _ ?_; clear hK))
    (try simp only [Exit.inBlock, Exit.then]); refine bodyPost_ret (results_cell2 aggCalm rfl _ _ _ _ (by rfl) HB3.out.ref.bR rfl) rfl ?_
    exact BAD.out 1 _ HE.out (by omega) HB3.out
  | true =>
  cases hiq : s.is q with
  | false =>
    have HE : Hid (s.stepErr p q = 1) := Lib.hid (by unfold CNet.stepErr; rw [if_pos (.inr hiq)])
    rw [hip] at HIp
    rw [hiq] at HIq
    clear hip hiq
    go_enter Tryd.func11, Tryd.ntmps11
    go_wp2_with fail
    refine (ref6In_any _ _ _ _).mono ?_
    rintro e w2 ⟨rfl, rfl⟩
    rw [HIp.out]
    go_wp2_with fail
    refine (ref6In_any _ _ _ _).mono ?_
    rintro e w2 ⟨rfl, rfl⟩
    rw [HIq.out]
    have HB := Lib.hid (Bx.start w [.int .i64 (n : Int), .int .i64 (m : Int), .slice pa n pc, .slice oa n oc, .slice wa nn wc, .int .i64 st, .bool cl] [.int .i64 0, .int .i64 0, .slice none 0 0, .slice none 0 0, .slice none 0 0, .int .i64 0, .bool false] (cf s) HU.out 31 31)
    generalize ((w.alloc _).alloc _) = w2 at *
    go_wp2_with (first | (refine wpList_plain rfl (fun K hK => wp_loadT aggCalm _ rfl w.heap.size [.int .i64 (n : Int), .int .i64 (m : Int), .slice pa n pc, .slice oa n oc, .slice wa nn wc, .int .i64 st, .bool cl] (by rfl) HB.out.ref.bB rfl ?_); refine hK _ _ ?_; clear hK) | (refine wpList_plain rfl (fun K hK => wp_storeT aggCalm _ _ rfl (w.heap.size + 1) [.int .i64 (n : Int), .int .i64 (m : Int), .slice pa n pc, .slice oa n oc, .slice wa nn wc, .int .i64 st, .bool cl] _ (by rfl) (by rfl) rfl HB.out.ref.bR rfl rfl ?_); intro wz hBz hcz; have HB3 := Lib.hid (HB.out.setR hBz hcz); clear hBz hcz; refine hK _ _ ?_; clear hK))
    (try simp only [Exit.inBlock, Exit.then]); refine bodyPost_ret (results_cell2 aggCalm rfl _ _ _ _ (by rfl) HB3.out.ref.bR rfl) rfl ?_
    exact BAD.out 1 _ HE.out (by omega) HB3.out
  | true =>
  have HOK : Hid (¬ (s.is p = false ∨ s.is q = false)) := Lib.hid (by rw [hip, hiq]; simp)
  rw [hip] at HIp
  rw [hiq] at HIq
  obtain ⟨a, rfl, ha⟩ := (s.is_iff p).1 hip
  obtain ⟨b, rfl, hb⟩ := (s.is_iff q).1 hiq
  have HPS := Lib.hid ha
  have HQS := Lib.hid hb
  have HPN : Hid (a < n) := Lib.hid (by rw [← HN.out]; exact ha)
  have HQN : Hid (b < n) := Lib.hid (by rw [← HN.out]; exact hb)
  have han : (a : Int) < n := by have := HPN.out; omega
  have hbn : (b : Int) < n := by have := HQN.out; omega
  clear ha hb hip hiq
  obtain ⟨mm, HMM⟩ : ∃ mm, Hid (a * n = mm) := ⟨_, Lib.hid rfl⟩
  obtain ⟨k, HK⟩ : ∃ k, Hid (mm + b = k) := ⟨_, Lib.hid rfl⟩
  have HKN : Hid (k < nn) := Lib.hid (by rw [← HK.out, ← HMM.out, ← HNN.out]; exact flat_lt HPN.out HQN.out)
  have HMM2 : Hid (mm ≤ 25) := Lib.hid (by have := HK.out; have := HKN.out; have := HN25.out; omega)
  have hw1 : IntKind.i64.wrap ((a : Int) * (n : Int)) = (mm : Int) := by rw [← Int.natCast_mul, HMM.out]; exact IntWalk.i64_in _ (by have := HMM2.out; omega)
  have hw2 : IntKind.i64.wrap ((mm : Int) + (b : Int)) = (k : Int) := by rw [← HK.out, Int.natCast_add]; exact IntWalk.i64_in _ (by have := HMM2.out; have := HKN.out; have := HK.out; have := HN25.out; omega)
  have hw3 : wrap64 ((a : Int) * (n : Int)) = (mm : Int) := by rw [← Int.natCast_mul, HMM.out]; exact IntWalk.wrap64_in _ (by have := HMM2.out; omega)
  have hw4 : wrap64 ((mm : Int) + (b : Int)) = (k : Int) := by rw [← HK.out, Int.natCast_add]; exact IntWalk.wrap64_in _ (by have := HMM2.out; have := HKN.out; have := HK.out; have := HN25.out; omega)
  have hkn : (k : Int) < nn := by have := HKN.out; omega
  have HIX : Hid (a * s.n + b = k) := Lib.hid (by rw [HN.out, HMM.out, HK.out])
  cases hway : s.ways a b with
  | nil =>
    have HE : Hid (s.stepErr a b = 5) := Lib.hid (by unfold CNet.stepErr; rw [if_neg HOK.out, Int.toNat_natCast, Int.toNat_natCast, if_pos hway])
    go_enter Tryd.func11, Tryd.ntmps11
    go_wp2_with fail
    refine (ref6In_any _ _ _ _).mono ?_
    rintro e w2 ⟨rfl, rfl⟩
    rw [HIp.out]
    go_wp2_with fail
    refine (ref6In_any _ _ _ _).mono ?_
    rintro e w2 ⟨rfl, rfl⟩
    rw [HIq.out]
    have HB := Lib.hid (Bx.start w [.int .i64 (n : Int), .int .i64 (m : Int), .slice pa n pc, .slice oa n oc, .slice wa nn wc, .int .i64 st, .bool cl] [.int .i64 0, .int .i64 0, .slice none 0 0, .slice none 0 0, .slice none 0 0, .int .i64 0, .bool false] (cf s) HU.out 31 31)
    generalize ((w.alloc _).alloc _) = w2 at *
    have q0 : w2.cell? ⟨w.heap.size, 0, none⟩ = some (.int .i64 (n : Int)) := HB.out.ref.bB.cell 0
    have q4 : w2.cell? ⟨w.heap.size, 4, none⟩ = some (.slice wa nn wc) := HB.out.ref.bB.cell 4
    have HWY : Hid (Rd2 (In S w w.heap.size (w.heap.size + 1)) w2 (.slice wa nn wc) (flat s.n s.ways)) := Lib.hid (HB.out.at 4 rfl rfl)
    have HFL : Hid ((flat s.n s.ways).length = nn) := Lib.hid (by rw [flat_len, HN.out, HNN.out])
    obtain ⟨bG, oG, cG, u, ev, dr, hru, hrl⟩ := HWY.out.at (Chg.refl NoF w2) (fun _ _ h => h) (j := k) (by rw [HFL.out]; exact HKN.out)
    rw [HFL.out] at ev
    simp only [Value.slice.injEq] at ev
    obtain ⟨rfl, -, rfl⟩ := ev
    rw [← HIX.out, flat_at _ HPS.out HQS.out] at hru hrl
    rw [hway] at hru
    obtain ⟨ua, uc, rfl⟩ := hru.val
    have dr2 : w2.cell? ⟨bG, oG + k, none⟩ = some (.slice ua 0 uc) := dr
    clear hru hrl dr
    go_wp2_with (first | (refine wpList_plain rfl (fun K hK => wp_loadT aggCalm _ rfl w.heap.size [.int .i64 (n : Int), .int .i64 (m : Int), .slice pa n pc, .slice oa n oc, .slice (some ⟨bG, oG, none⟩) nn wc, .int .i64 st, .bool cl] (by rfl) HB.out.ref.bB rfl ?_); refine hK _ _ ?_; clear hK) | (refine wpList_plain rfl (fun K hK => wp_storeT aggCalm _ _ rfl (w.heap.size + 1) [.int .i64 (n : Int), .int .i64 (m : Int), .slice pa n pc, .slice oa n oc, .slice (some ⟨bG, oG, none⟩) nn wc, .int .i64 st, .bool cl] _ (by rfl) (by rfl) rfl HB.out.ref.bR rfl rfl ?_); intro wz hBz hcz; have HB3 := Lib.hid (HB.out.setR hBz hcz); clear hBz hcz; refine hK _ _ ?_; clear hK))
    (try simp only [Exit.inBlock, Exit.then]); refine bodyPost_ret (results_cell2 aggCalm rfl _ _ _ _ (by rfl) HB3.out.ref.bR rfl) rfl ?_
    have h1 : s.step a b = s := by unfold CNet.step; rw [if_neg (by rw [HE.out]; decide)]
    rw [h1, HE.out]
    exact ⟨_, rfl, HB3.out.ans⟩
  | cons x t =>
    have HE : Hid (s.stepErr a b = 0) := Lib.hid (by unfold CNet.stepErr; rw [if_neg HOK.out, Int.toNat_natCast, Int.toNat_natCast, if_neg (by rw [hway]; simp)])
    have HDO : Hid (s.step a b = (s.pop a b).hear a b x) := Lib.hid (by unfold CNet.step; rw [if_pos HE.out, Int.toNat_natCast, Int.toNat_natCast, hway]; rfl)
    obtain ⟨tl, HTL⟩ : ∃ tl, Hid (t.length = tl) := ⟨_, Lib.hid rfl⟩
    have HWL : Hid (tl < 1000) := Lib.hid (by have := HS.out.sane.len a b HPS.out HQS.out; rw [hway] at this; simp at this; have := HTL.out; omega)
    have hz : (((tl : Int) + 1) == 0) = false := by rw [beq_eq_false_iff_ne]; omega
    have htl2 : (1 : Int) ≤ (tl : Int) + 1 := by omega
    have hz0 : (0 : Int) < (tl : Int) + 1 := by omega
    have HPOP : Hid ((cf s).set 4 (.r ((flat s.n s.ways).set k t)) = cf (s.pop a b)) := Lib.hid (by have := cf_pop s HQS.out (p := a); rw [HIX.out, hway] at this; exact this)
    have HWE := Lib.hid hway
    clear hway
    go_enter Tryd.func11, Tryd.ntmps11
    go_wp2_with fail
    refine (ref6In_any _ _ _ _).mono ?_
    rintro e w2 ⟨rfl, rfl⟩
    rw [HIp.out]
    go_wp2_with fail
    refine (ref6In_any _ _ _ _).mono ?_
    rintro e w2 ⟨rfl, rfl⟩
    rw [HIq.out]
    have HB := Lib.hid (Bx.start w [.int .i64 (n : Int), .int .i64 (m : Int), .slice pa n pc, .slice oa n oc, .slice wa nn wc, .int .i64 st, .bool cl] [.int .i64 0, .int .i64 0, .slice none 0 0, .slice none 0 0, .slice none 0 0, .int .i64 0, .bool false] (cf s) HU.out 31 31)
    generalize ((w.alloc _).alloc _) = w2 at *
    have q0 : w2.cell? ⟨w.heap.size, 0, none⟩ = some (.int .i64 (n : Int)) := HB.out.ref.bB.cell 0
    have q4 : w2.cell? ⟨w.heap.size, 4, none⟩ = some (.slice wa nn wc) := HB.out.ref.bB.cell 4
    have HWY : Hid (Rd2 (In S w w.heap.size (w.heap.size + 1)) w2 (.slice wa nn wc) (flat s.n s.ways)) := Lib.hid (HB.out.at 4 rfl rfl)
    have HFL : Hid ((flat s.n s.ways).length = nn) := Lib.hid (by rw [flat_len, HN.out, HNN.out])
    obtain ⟨bG, oG, cG, u, ev, dr, hru, hrl⟩ := HWY.out.at (Chg.refl NoF w2) (fun _ _ h => h) (j := k) (by rw [HFL.out]; exact HKN.out)
    rw [HFL.out] at ev
    simp only [Value.slice.injEq] at ev
    obtain ⟨rfl, -, rfl⟩ := ev
    rw [← HIX.out, flat_at _ HPS.out HQS.out] at hru hrl
    rw [HWE.out] at hru
    obtain ⟨bU, oU, cU, rfl, hUS, hcap, hcU⟩ := hru.formC (by simp)
    have dU := hcU 0 (by simp)
    rw [show (x :: t).getD 0 0 = x from rfl, Nat.add_zero] at dU
    rw [show (x :: t).length = tl + 1 by rw [List.length_cons, HTL.out]] at dr hru hcap
    have HRU := Lib.hid hru
    obtain ⟨off, hoff, hoff2⟩ := tail_off2 bU oU cU tl hcap
    have HTAIL : Hid (Rd (In S w w.heap.size (w.heap.size + 1)) w2 (.slice (some ⟨bU, off, none⟩) tl (cU - 1)) t) := Lib.hid (Rd.tail2 hru HTL.out hoff2)
    have hcap2 : (tl : Int) + 1 ≤ cU := by omega
    have HUS := Lib.hid hUS
    clear hru hrl hcU hUS hoff2 hcap
    go_wp2_with fail
    refine wp_region_plan (Chg NoF w2) 12 [(0,true),(1,true),(2,true),(3,true),(4,true),(5,true),(6,true),(7,true),(8,true),(9,true),(10,false),(11,true),(12,false)] mixed (by kernel_rfl) (Chg.refl _ _).drew ?_
    simp only [planOps, List.map_cons, List.map_nil, List.getElem?_cons_zero, List.getElem?_cons_succ, Option.getD_some]
    generalize hops : List.toArray _ = ops
    iterate 10 (refine wpPlan_quiet (v := ?_) rfl (fun _ _ _ h => h) (by intro w1 hS; have s0 := hS.cell_some q4 (fun h => h); have s1 := hS.cell_some q0 (fun h => h); clear hS; go_simp; with_reducible rfl) ?_; (simp only [Act.put, List.setIfInBounds_toArray, List.set_cons_zero, List.set_cons_succ]))
    refine wpPlan_loud rfl (fun K hK => ?_)
    go_simp
    have HD4 := Lib.hid (HB.out.no ((Chg.refl NoF w2).drew))
    refine (rows_ref (In S w w.heap.size (w.heap.size + 1)) _ _ (flat s.n s.ways) k t w2.drew (HWY.out.keep ((Chg.refl NoF w2).drew) (fun _ _ h => h)) (HTAIL.out.keep ((Chg.refl NoF w2).drew) (fun _ _ h => h)) (by rw [HTL.out]; have := HWL.out; omega) (by rw [HFL.out]; exact HKN.out) (by rw [HFL.out]; have := HN25.out; omega)).mono ?_
    rintro e w4 ⟨v4, rfl, hr4, hc4⟩
    obtain ⟨a4, c4, e4⟩ := hr4.val
    rw [List.length_set, HFL.out] at e4
    subst e4
    have HC4 : Hid (Chg NoF w2 w4) := Lib.hid (((Chg.refl NoF w2).drew).trans hc4)
    have HX4 := Lib.hid (HD4.out.told (f := .r _) hr4)
    have HN4 := Lib.hid (HB.out.no HC4.out)
    refine hK _ _ (fun _ => HC4.out) ?_
    clear hK K hr4 hc4 HD4
    (try simp only [Act.put, List.setIfInBounds_toArray, List.set_cons_zero, List.set_cons_succ])
    (refine wpPlan_quiet (v := ?_) rfl (fun _ _ _ h => h) (by intro w1 hS; clear hS; go_simp; with_reducible rfl) ?_; (simp only [Act.put, List.setIfInBounds_toArray, List.set_cons_zero, List.set_cons_succ]))
    refine wpPlan_loud rfl (fun K hK => ?_)
    have sx : w4.cell? ⟨w.heap.size, 4, none⟩ = some (.slice (some ⟨bG, oG, none⟩) nn wc) := HN4.out.ref.bB.cell 4
    have zx := HN4.out.ref.bB.frozen 4
    go_simp
    refine hK _ _ (fun h => absurd rfl h) ?_
    clear hK K
    clear hops
    refine wpPlan_nil ?_
    have HB4 := Lib.hid (HN4.out.set 4 _ _ HX4.out)
    have HU5 : Hid (Rd (In S w w.heap.size (w.heap.size + 1)) (w4.setCell ⟨w.heap.size, 4, none⟩ (.slice a4 nn c4)) (.slice (some ⟨bU, oU, none⟩) (tl + 1) cU) (x :: t)) := Lib.hid ((HRU.out.keep HC4.out (fun _ _ h => h)).keep (setCell_chg w4 ⟨w.heap.size, 4, none⟩ _) (fun b hb e => (HN4.out.notB b hb).1 e))
    clear sx zx q0 q4 dr HB HWY HTAIL hoff hcap2 htl2 hz HC4 HX4 HN4
    generalize w4.setCell _ _ = w5 at *
    rw [HPOP.out] at HB4
    have dU5 : w5.cell? ⟨bU, oU, none⟩ = some (.int .i64 x) := by
      obtain ⟨b1, o1, c1, e1, -, hc1⟩ := HU5.out.form (by simp)
      simp only [Value.slice.injEq, Option.some.injEq, Addr.mk.injEq, and_true] at e1
      obtain ⟨⟨rfl, rfl⟩, -, -⟩ := e1
      have := hc1 0 (by simp)
      rw [show (x :: t).getD 0 0 = x from rfl, Nat.add_zero] at this
      exact this
    clear dU
    by_cases hx : x = 2
    · have hxe : (x == 2) = true := by rw [beq_iff_eq]; exact hx
      have HHE : Hid ((s.pop a b).hear a b x = ({ s.pop a b with owed := put1 s.owed b (s.owed b - 1) }).rest b) := Lib.hid (by unfold CNet.hear; rw [if_pos hx]; rfl)
      clear hx
      obtain ⟨ow, HOW⟩ : ∃ ow, Hid (s.owed b = ow) := ⟨_, Lib.hid rfl⟩
      have how := HS.out.sane.owed b HQS.out
      rw [HOW.out] at how
      obtain ⟨how1, how2⟩ := how
      have hwo1 : IntKind.i64.wrap (ow - 1) = ow - 1 := IntWalk.i64_in _ (by omega)
      go_wp2_with fail
      clear dU5
      have q3 : w5.cell? ⟨w.heap.size, 3, none⟩ = some (.slice oa n oc) := HB4.out.ref.bB.cell 3
      have HRO : Hid (Rd (In S w w.heap.size (w.heap.size + 1)) w5 (.slice oa n oc) (line s.n s.owed)) := Lib.hid (HB4.out.at (f := .l (line s.n s.owed)) 3 rfl rfl)
      obtain ⟨bO, oO, cO, eO, -, hcO⟩ := HRO.out.form (by rw [line_len, HN.out]; have := HPN.out; omega)
      rw [line_len, HN.out] at eO
      simp only [Value.slice.injEq] at eO
      obtain ⟨rfl, -, rfl⟩ := eO
      have dO := hcO b (by rw [line_len]; exact HQS.out)
      rw [line_at _ HQS.out, HOW.out] at dO
      clear hcO
      refine wp_region_plan (Chg NoF w5) 11 [(0,true),(1,true),(2,true),(3,true),(4,true),(5,true),(6,true),(7,true),(8,true),(9,false),(10,true),(11,false)] mixed (by kernel_rfl) (Chg.refl _ _).drew ?_
      simp only [planOps, List.map_cons, List.map_nil, List.getElem?_cons_zero, List.getElem?_cons_succ, Option.getD_some]
      generalize hops : List.toArray _ = ops
      iterate 9 (refine wpPlan_quiet (v := ?_) rfl (fun _ _ _ h => h) (by intro w1 hS; have s0 := hS.cell_some q3 (fun h => h); have s1 := hS.cell_some dO (fun h => h); clear hS; go_simp; with_reducible rfl) ?_; (simp only [Act.put, List.setIfInBounds_toArray, List.set_cons_zero, List.set_cons_succ]))
      refine wpPlan_loud rfl (fun K hK => ?_)
      go_simp
      have HD6 := Lib.hid (HB4.out.no ((Chg.refl NoF w5).drew))
      refine (set_ref (In S w w.heap.size (w.heap.size + 1)) _ (line s.n s.owed) b (ow - 1) _ (HRO.out.keep ((Chg.refl NoF w5).drew) (fun _ _ h => h)) (by rw [line_len]; exact HQS.out) (by rw [line_len, HN.out]; have := H5.out; omega)).mono ?_
      rintro e w6 ⟨v6, rfl, hr6, hc6⟩
      obtain ⟨a6, c6, e6⟩ := hr6.val
      rw [List.length_set, line_len, HN.out] at e6
      subst e6
      have HC6 : Hid (Chg NoF w5 w6) := Lib.hid (((Chg.refl NoF w5).drew).trans hc6)
      have HX6 := Lib.hid (HD6.out.told (f := .l _) hr6)
      have HN6 := Lib.hid (HB4.out.no HC6.out)
      refine hK _ _ (fun _ => HC6.out) ?_
      clear hK K hr6 hc6 HD6
      (try simp only [Act.put, List.setIfInBounds_toArray, List.set_cons_zero, List.set_cons_succ])
      (refine wpPlan_quiet (v := ?_) rfl (fun _ _ _ h => h) (by intro w1 hS; clear hS; go_simp; with_reducible rfl) ?_; (simp only [Act.put, List.setIfInBounds_toArray, List.set_cons_zero, List.set_cons_succ]))
      refine wpPlan_loud rfl (fun K hK => ?_)
      have sx : w6.cell? ⟨w.heap.size, 3, none⟩ = some (.slice (some ⟨bO, oO, none⟩) n oc) := HN6.out.ref.bB.cell 3
      have zx := HN6.out.ref.bB.frozen 3
      go_simp
      refine hK _ _ (fun h => absurd rfl h) ?_
      clear hK K
      clear hops
      refine wpPlan_nil ?_
      have HB6 := Lib.hid (HN6.out.set 3 _ _ HX6.out)
      clear sx zx q3 dO HRO HB4 HC6 HX6 HN6
      generalize w6.setCell _ _ = w7 at *
      have HG6 : Hid (Bx S w w7 w.heap.size (w.heap.size + 1) [.int .i64 (n : Int), .int .i64 (m : Int), .slice pa n pc, .slice a6 n c6, .slice a4 nn c4, .int .i64 st, .bool cl] [.int .i64 0, .int .i64 0, .slice none 0 0, .slice none 0 0, .slice none 0 0, .int .i64 0, .bool false] (cf { s.pop a b with owed := put1 s.owed b (s.owed b - 1) })) := Lib.hid (by
        have h1 := HB6.out
        have h2 := cf_owed (s.pop a b) b (s.owed b - 1)
        rw [← HOW.out] at h1
        exact Eq.mp (congrArg (fun fs => Bx S w _ w.heap.size (w.heap.size + 1) _ _ fs) h2) h1)
      clear HB6
      go_wp2_with (refine wpList_plain rfl (fun K hK => wp_loadT aggCalm _ rfl w.heap.size [.int .i64 (n : Int), .int .i64 (m : Int), .slice pa n pc, .slice a6 n c6, .slice a4 nn c4, .int .i64 st, .bool cl] (by rfl) HG6.out.ref.bB rfl ?_); refine hK _ _ ?_; clear hK)
      refine (rest_ref (In S w w.heap.size (w.heap.size + 1)) w7 _ { s.pop a b with owed := put1 s.owed b (s.owed b - 1) } HG6.out.fld (by have := H5.out; have := HN.out; show s.n ≤ 5; omega) b HQS.out ⟨HS.out.par b HQS.out, HS.out.sane.par b HQS.out⟩ (by have h1 := HS.out.sane.owed b HQS.out; have h2 : put1 s.owed b (s.owed b - 1) b = s.owed b - 1 := put1_self _ _ _; show -5000 ≤ put1 s.owed b (s.owed b - 1) b ∧ put1 s.owed b (s.owed b - 1) b ≤ 5000; rw [h2]; omega) (fun q hq => by have h1 := HS.out.sane.len b q HQS.out hq; have h2 := pop_len s a b b q; show ((s.pop a b).ways b q).length < 5000; omega)).mono ?_
      rintro e w8 ⟨v8, rfl, us8, rfl, hr8, hc8⟩
      have HR8 := Lib.hid (HG6.out.toldS hr8)
      have HB8 := Lib.hid (HG6.out.no hc8)
      clear hr8 hc8 
      go_wp2_with (refine wpList_plain rfl (fun K hK => wp_storeT aggCalm _ _ rfl (w.heap.size + 1) us8 _ (by rfl) (by rfl) HR8.out.len HB8.out.ref.bR rfl HR8.out.one ?_); intro w9 hB9 hc9; have HB9 := Lib.hid hB9; have HC9 : Hid (Chg NoF w w9) := Lib.hid (HB8.out.ref.chg.trans2 hc9 fun i _ hi => .inr (by have hi : i = w.heap.size + 1 := hi; omega)); have HR9 : Hid (RdS (More S w) w9 us8 (cf (({ s.pop a b with owed := put1 s.owed b (s.owed b - 1) }).rest b))) := Lib.hid ((HR8.out.keep hc9 (fun b hb e => (HB8.out.notB b hb).2 e)).mono (fun b _ hb => hb.elim (fun h => .inl h.1) (fun h => .inr h.1))); clear hB9 hc9; refine hK _ _ ?_; clear hK)
      (try simp only [Exit.inBlock, Exit.then]); refine bodyPost_ret (results_cell2 aggCalm rfl _ _ _ _ (by rfl) HB9.out HR8.out.len) rfl ?_
      exact ⟨_, by rw [HE.out]; rfl, us8, rfl, by rw [HDO.out, HHE.out]; exact HR9.out, HC9.out⟩
    have hxe : (x == 2) = false := by rw [beq_eq_false_iff_ne]; exact hx
    have HX2 := Lib.hid hx
    clear hx
    have q1 : w5.cell? ⟨w.heap.size, 1, none⟩ = some (.int .i64 (m : Int)) := HB4.out.ref.bB.cell 1
    have HWI := Lib.hid (fun wq => with_any m b (by have := HM32.out; omega) (by have := HQN.out; have := H5.out; omega) wq)
    obtain ⟨m2, HM2⟩ : ∃ m2, Hid (withB m b = m2) := ⟨_, Lib.hid rfl⟩
    rw [HM2.out] at HWI
    go_wp2_with fail
    refine (HWI.out w5).mono ?_
    rintro e w6 ⟨rfl, rfl⟩
    have z1 := HB4.out.ref.bB.frozen 1
    have HG7 : Hid (Bx S w (w5.setCell ⟨w.heap.size, 1, none⟩ (.int .i64 (m2 : Int))) w.heap.size (w.heap.size + 1) [.int .i64 (n : Int), .int .i64 (m2 : Int), .slice pa n pc, .slice oa n oc, .slice a4 nn c4, .int .i64 st, .bool cl] [.int .i64 0, .int .i64 0, .slice none 0 0, .slice none 0 0, .slice none 0 0, .int .i64 0, .bool false] (cf { s.pop a b with works := put1 s.works b true })) := Lib.hid (by
      have h1 := HB4.out.set 1 (.int .i64 (m2 : Int)) (.i (m2 : Int)) rfl
      have h2 := cf_works (s.pop a b) (p := b) HQS.out
      rw [show setB (s.pop a b).works (s.pop a b).n = m from HM.out, HM2.out] at h2
      exact Eq.mp (congrArg (fun fs => Bx S w _ w.heap.size (w.heap.size + 1) _ _ fs) h2) h1)
    have q2 : (w5.setCell ⟨w.heap.size, 1, none⟩ (.int .i64 (m2 : Int))).cell? ⟨w.heap.size, 2, none⟩ = some (.slice pa n pc) := HG7.out.ref.bB.cell 2
    have HRP : Hid (Rd (In S w w.heap.size (w.heap.size + 1)) (w5.setCell ⟨w.heap.size, 1, none⟩ (.int .i64 (m2 : Int))) (.slice pa n pc) (line s.n s.parent)) := Lib.hid (HG7.out.at (f := .l (line s.n s.parent)) 2 rfl rfl)
    obtain ⟨bP, oP, cP, eP, -, hcP⟩ := HRP.out.form (by rw [line_len, HN.out]; have := HPN.out; omega)
    rw [line_len, HN.out] at eP
    simp only [Value.slice.injEq] at eP
    obtain ⟨rfl, -, rfl⟩ := eP
    have dP := hcP b (by rw [line_len]; exact HQS.out)
    obtain ⟨pr, HPR⟩ : ∃ pr, Hid (s.parent b = pr) := ⟨_, Lib.hid rfl⟩
    rw [line_at _ HQS.out, HPR.out] at dP
    clear hcP
    by_cases hpl : pr < 0
    · have hpd : decide (pr < 0) = true := decide_eq_true hpl
      have HHE : Hid ((s.pop a b).hear a b x = { s.pop a b with parent := put1 s.parent b (a : Int), works := put1 s.works b true }) := Lib.hid (by unfold CNet.hear; rw [if_neg HX2.out, if_pos (by show s.parent b < 0; rw [HPR.out]; exact hpl)]; rfl)
      clear hpl
      go_wp2_with fail
      refine (set_ref (In S w w.heap.size (w.heap.size + 1)) _ (line s.n s.parent) b (a : Int) _ HRP.out (by rw [line_len]; exact HQS.out) (by rw [line_len, HN.out]; have := H5.out; omega)).mono ?_
      rintro e w8 ⟨v8, rfl, hr8, hc8⟩
      obtain ⟨a8, c8, e8⟩ := hr8.val
      rw [List.length_set, line_len, HN.out] at e8
      subst e8
      have HX8 := Lib.hid (HG7.out.told (f := .l _) hr8)
      have HN8 := Lib.hid (HG7.out.no hc8)
      have HG8 : Hid (Bx S w (w8.setCell ⟨w.heap.size, 2, none⟩ (.slice a8 n c8)) w.heap.size (w.heap.size + 1) [.int .i64 (n : Int), .int .i64 (m2 : Int), .slice a8 n c8, .slice oa n oc, .slice a4 nn c4, .int .i64 st, .bool cl] [.int .i64 0, .int .i64 0, .slice none 0 0, .slice none 0 0, .slice none 0 0, .int .i64 0, .bool false] (cf { s.pop a b with parent := put1 s.parent b (a : Int), works := put1 s.works b true })) := Lib.hid (by
        have h1 := HN8.out.set 2 _ _ HX8.out
        have h2 := cf_parent { s.pop a b with works := put1 s.works b true } b (a : Int)
        exact Eq.mp (congrArg (fun fs => Bx S w _ w.heap.size (w.heap.size + 1) _ _ fs) h2) h1)
      clear q2 dP q1 z1 dU5 hr8 hc8
      have q2 : w8.cell? ⟨w.heap.size, 2, none⟩ = some (.slice (some ⟨bP, oP, none⟩) n pc) := HN8.out.ref.bB.cell 2
      have z2 := HN8.out.ref.bB.frozen 2
      go_wp2_with (first | (refine wpList_plain rfl (fun K hK => wp_loadT aggCalm _ rfl w.heap.size [.int .i64 (n : Int), .int .i64 (m2 : Int), .slice a8 n c8, .slice oa n oc, .slice a4 nn c4, .int .i64 st, .bool cl] (by rfl) HG8.out.ref.bB rfl ?_); refine hK _ _ ?_; clear hK) | (refine wpList_plain rfl (fun K hK => wp_storeT aggCalm _ _ rfl (w.heap.size + 1) [.int .i64 (n : Int), .int .i64 (m2 : Int), .slice a8 n c8, .slice oa n oc, .slice a4 nn c4, .int .i64 st, .bool cl] _ (by rfl) (by rfl) rfl HG8.out.ref.bR rfl rfl ?_); intro wz hBz hcz; have HG9 := Lib.hid (HG8.out.setR hBz hcz); clear hBz hcz; refine hK _ _ ?_; clear hK))
      (try simp only [Exit.inBlock, Exit.then]); refine bodyPost_ret (results_cell2 aggCalm rfl _ _ _ _ (by rfl) HG9.out.ref.bR rfl) rfl ?_
      rw [HE.out, HDO.out, HHE.out]
      exact ⟨_, rfl, HG9.out.ans⟩
    have hpd : decide (pr < 0) = false := decide_eq_false hpl
    have HHE : Hid ((s.pop a b).hear a b x = ({ s.pop a b with works := put1 s.works b true }).push b a 2) := Lib.hid (by unfold CNet.hear; rw [if_neg HX2.out, if_neg (by show ¬ s.parent b < 0; rw [HPR.out]; exact hpl)]; rfl)
    clear hpl
    go_wp2_with (refine wpList_plain rfl (fun K hK => wp_loadT aggCalm _ rfl w.heap.size [.int .i64 (n : Int), .int .i64 (m2 : Int), .slice (some ⟨bP, oP, none⟩) n pc, .slice oa n oc, .slice a4 nn c4, .int .i64 st, .bool cl] (by rfl) HG7.out.ref.bB rfl ?_); refine hK _ _ ?_; clear hK)
    refine (sendCalm_ref (In S w w.heap.size (w.heap.size + 1)) _ _ { s.pop a b with works := put1 s.works b true } HG7.out.fld (by have := H5.out; have := HN.out; show s.n ≤ 5; omega) b a HQS.out HPS.out 2 (by have h1 := HS.out.sane.len b a HQS.out HPS.out; have h2 := pop_len s a b b a; show ((s.pop a b).ways b a).length < 5000; omega)).mono ?_
    rintro e w8 ⟨v8, rfl, us8, rfl, hr8, hc8⟩
    have HR8 := Lib.hid (HG7.out.toldS hr8)
    have HB8 := Lib.hid (HG7.out.no hc8)
    clear hr8 hc8 
    go_wp2_with (refine wpList_plain rfl (fun K hK => wp_storeT aggCalm _ _ rfl (w.heap.size + 1) us8 _ (by rfl) (by rfl) HR8.out.len HB8.out.ref.bR rfl HR8.out.one ?_); intro w9 hB9 hc9; have HB9 := Lib.hid hB9; have HC9 : Hid (Chg NoF w w9) := Lib.hid (HB8.out.ref.chg.trans2 hc9 fun i _ hi => .inr (by have hi : i = w.heap.size + 1 := hi; omega)); have HR9 : Hid (RdS (More S w) w9 us8 (cf (({ s.pop a b with works := put1 s.works b true }).push b a 2))) := Lib.hid ((HR8.out.keep hc9 (fun b hb e => (HB8.out.notB b hb).2 e)).mono (fun b _ hb => hb.elim (fun h => .inl h.1) (fun h => .inr h.1))); clear hB9 hc9; refine hK _ _ ?_; clear hK)
    (try simp only [Exit.inBlock, Exit.then]); refine bodyPost_ret (results_cell2 aggCalm rfl _ _ _ _ (by rfl) HB9.out HR8.out.len) rfl ?_
    exact ⟨_, by rw [HE.out]; rfl, us8, rfl, by rw [HDO.out, HHE.out]; exact HR9.out, HC9.out⟩

end Go.Proofs.YtbckjmbhipofaaaDoor
