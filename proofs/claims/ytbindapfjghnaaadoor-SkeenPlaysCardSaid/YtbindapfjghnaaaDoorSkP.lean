/-
  The document's answers about the net of one order: a note fixed.
  Conditions: the answer's lists are read, and tell the program's net.
-/
import Derived.Test.YtbindapfjghnaaaDoorSkO
import Derived.Test.YtbindapfjghnaaaDoorSkE
namespace Go.Proofs.YtbindapfjghnaaaDoor
open Go Go.RowKit

theorem takeN_stop {s : SNet} {p f : Nat} (h : s.stops p) : takeN p (f + 1) s = takeN p f s := (take_none h).trans (take_none h).symm
theorem takeN_more {s : SNet} {p f : Nat} (h : ¬ s.stops p) : takeN p (f + 1) s = takeN p f (s.take1 p) := by rw [takeN, if_neg h]

set_option maxHeartbeats 8000000 in
set_option maxRecDepth 100000 in
theorem fix_ref (S : Nat → Prop) (w : World) (us : List Value) (s : SNet) (h : RdS S w us (sf s)) (hs : SInv s) (p k : Int) :
    Calls Tryd.prog 11 #[.agg us.toArray, .int .i64 p, .int .i64 k] w (SAns S w (s.fixIt p k) (s.fixVal p k) (s.fixErr p k)) := by
  obtain ⟨ka, kc, ta, tc, fa, fc, ga, gc, rfl⟩ := sf_opn h
  have HU := Lib.hid h
  have HS := Lib.hid hs
  obtain ⟨n, HN⟩ : ∃ n, Hid (s.n = n) := ⟨_, Lib.hid rfl⟩
  obtain ⟨m, HM⟩ : ∃ m, Hid (s.m = m) := ⟨_, Lib.hid rfl⟩
  have H4 : Hid (1 ≤ n ∧ n ≤ 4) := Lib.hid (by rw [← HN.out]; exact ⟨hs.n1, hs.n4⟩)
  have H20 : Hid (m ≤ 20) := Lib.hid (by rw [← HM.out]; exact hs.m20)
  rw [HM.out, HN.out] at HU ⊢
  clear h hs
  have BAD : Hid (∀ x (w' : World), s.fixErr p k = x → x ≠ 0 → Bx S w w' w.heap.size (w.heap.size + 1) [.slice ka n kc, .slice ta m tc, .slice fa m fc, .slice ga n gc] [.slice ka n kc, .slice ta m tc, .slice fa m fc, .slice ga n gc] (sf s) → SAns S w (s.fixIt p k) (s.fixVal p k) (s.fixErr p k) (.returned (.tuple #[.agg #[.slice ka n kc, .slice ta m tc, .slice fa m fc, .slice ga n gc], .int .i64 0, .int .i64 x])) w') := Lib.hid fun x w' he hx hR => by
    have h1 : s.fixIt p k = s := by unfold SNet.fixIt; rw [if_neg (by rw [he]; exact hx)]
    have h2 : s.fixVal p k = 0 := by unfold SNet.fixVal; rw [if_neg (by rw [he]; exact hx)]
    rw [h1, h2, he]
    exact ⟨_, rfl, hR.ans⟩
  cases hip : s.is p k with
  | false =>
    have HE : Hid (s.fixErr p k = 1) := Lib.hid (by unfold SNet.fixErr; rw [if_pos hip])
    have HIP := Lib.hid hip
    clear hip
    go_enter Tryd.func11, Tryd.ntmps11
    go_upto_region 1 with fail
    have HB := Lib.hid (Bx.start w [.slice ka n kc, .slice ta m tc, .slice fa m fc, .slice ga n gc] [.slice none 0 0, .slice none 0 0, .slice none 0 0, .slice none 0 0] (sf s) HU.out 31 31)
    generalize ((w.alloc _).alloc _) = w2 at *
    go_wp2_with (refine wpList_plain rfl (fun K hK => wp_loadT aggSkeen _ rfl w.heap.size [.slice ka n kc, .slice ta m tc, .slice fa m fc, .slice ga n gc] (by rfl) HB.out.ref.bB rfl ?_); refine hK _ _ ?_; clear hK)
    refine (there_ref (In S w w.heap.size (w.heap.size + 1)) w2 _ s HB.out.fld (by rw [HN.out]; exact H4.out.2) (by rw [HM.out]; exact H20.out) p k).mono ?_
    rintro e w3 ⟨rfl, hc3⟩
    have HB3 := Lib.hid (HB.out.no hc3)
    clear hc3 HB
    rw [HIP.out]
    go_wp2_with (first | (refine wpList_plain rfl (fun K hK => wp_loadT aggSkeen _ rfl w.heap.size [.slice ka n kc, .slice ta m tc, .slice fa m fc, .slice ga n gc] (by rfl) HB3.out.ref.bB rfl ?_); refine hK _ _ ?_; clear hK) | (refine wpList_plain rfl (fun K hK => wp_storeT aggSkeen _ _ rfl (w.heap.size + 1) [.slice ka n kc, .slice ta m tc, .slice fa m fc, .slice ga n gc] _ (by rfl) (by rfl) rfl HB3.out.ref.bR rfl rfl ?_); intro wz hBz hcz; have HB9 := Lib.hid (HB3.out.setR hBz hcz); clear hBz hcz; refine hK _ _ ?_; clear hK))
    (try simp only [Exit.inBlock, Exit.then]); refine bodyPost_ret (results_cell3 aggSkeen rfl _ _ _ _ (by rfl) HB9.out.ref.bR rfl) rfl ?_
    exact BAD.out 1 _ HE.out (by omega) HB9.out
  | true =>
  have HIP := Lib.hid hip
  obtain ⟨a, z, rfl, rfl, ha, hb⟩ := (s.is_iff p k).1 hip
  have HPS := Lib.hid ha
  have HKS := Lib.hid hb
  have HPN : Hid (a < n) := Lib.hid (by rw [← HN.out]; exact ha)
  have HKM : Hid (z < m) := Lib.hid (by rw [← HM.out]; exact hb)
  have han : (a : Int) < n := by have := HPN.out; omega
  have hbm : (z : Int) < m := by have := HKM.out; omega
  clear ha hb hip
  go_enter Tryd.func11, Tryd.ntmps11
  go_upto_region 1 with fail
  have HB := Lib.hid (Bx.start w [.slice ka n kc, .slice ta m tc, .slice fa m fc, .slice ga n gc] [.slice none 0 0, .slice none 0 0, .slice none 0 0, .slice none 0 0] (sf s) HU.out 31 31)
  generalize ((w.alloc _).alloc _) = w2 at *
  go_wp2_with (refine wpList_plain rfl (fun K hK => wp_loadT aggSkeen _ rfl w.heap.size [.slice ka n kc, .slice ta m tc, .slice fa m fc, .slice ga n gc] (by rfl) HB.out.ref.bB rfl ?_); refine hK _ _ ?_; clear hK)
  refine (there_ref (In S w w.heap.size (w.heap.size + 1)) w2 _ s HB.out.fld (by rw [HN.out]; exact H4.out.2) (by rw [HM.out]; exact H20.out) a z).mono ?_
  rintro e w3 ⟨rfl, hc3⟩
  have HB3 := Lib.hid (HB.out.no hc3)
  clear hc3 HB
  rw [HIP.out]
  have q0 : w3.cell? ⟨w.heap.size, 0, none⟩ = some (.slice ka n kc) := HB3.out.ref.bB.cell 0
  have q1 : w3.cell? ⟨w.heap.size, 1, none⟩ = some (.slice ta m tc) := HB3.out.ref.bB.cell 1
  have HRT : Hid (Rd2 (In S w w.heap.size (w.heap.size + 1)) w3 (.slice ta m tc) s.tL) := Lib.hid (HB3.out.at (f := .r s.tL) 1 rfl rfl)
  obtain ⟨bT, oT, cT, uT, eT, dT, hruT, hrlT⟩ := HRT.out.at (Chg.refl NoF w3) (fun _ _ h => h) (j := z) (by rw [s.tL_len, HM.out]; exact HKM.out)
  rw [s.tL_len, HM.out] at eT
  simp only [Value.slice.injEq] at eT
  obtain ⟨rfl, -, rfl⟩ := eT
  rw [s.tL_at HKS.out] at hruT hrlT
  have HRU := Lib.hid hruT
  obtain ⟨bU, oU, cU, rfl, -, hcU⟩ := hruT.form (by rw [line_len, HN.out]; have := HPN.out; omega)
  rw [line_len, HN.out] at dT HRU
  have HCU := Lib.hid hcU
  clear hcU hruT hrlT
  go_wp2_with fail
  go_loop [9, 10] (fun b i => ∃ j : Nat, j ≤ n ∧ i = .int .i64 j ∧ ∃ mo : Int, b = .int .i64 mo ∧ Hid (mostL s z j = mo ∧ allHere s z j = true)) (fun _ i => n - (intOf i).toNat)
  case atStart => exact ⟨0, Nat.zero_le _, rfl, 0, rfl, Lib.hid ⟨rfl, rfl⟩⟩
  case round =>
    obtain ⟨j, hjn, rfl, mo, rfl, HJ⟩ := hrel
    by_cases hj : j < n
    · have hj1 : (j : Int) < n := by omega
      have HJN : Hid (j + 1 ≤ n) := Lib.hid hj
      have HJS : Hid (j < s.n) := Lib.hid (by rw [HN.out]; exact hj)
      have dU := HCU.out j (by rw [line_len]; exact HJS.out)
      rw [line_at _ HJS.out] at dU
      have HHI := Lib.hid (here_iff HS.out.toSPre HJS.out HKS.out)
      obtain ⟨tk, HTK⟩ : ∃ x, Hid (s.tm z j = x) := ⟨_, Lib.hid rfl⟩
      rw [HTK.out] at dU HHI
      clear hj hjn
      cases hh : s.here z j with
      | false =>
        have HE : Hid (s.fixErr a z = 5) := Lib.hid (by
          unfold SNet.fixErr; rw [if_neg (by rw [HIP.out]; simp), Int.toNat_natCast, if_pos]
          rw [← Bool.not_eq_true]
          intro h
          have := (allHere_iff s z s.n).1 h j HJS.out
          rw [hh] at this; cases this)
        rw [hh] at HHI
        have ht : (tk == 0) = true := HHI.out
        clear hh
        go_wp2_with (first | (refine wpList_plain rfl (fun K hK => wp_loadT aggSkeen _ rfl w.heap.size [.slice ka n kc, .slice (some ⟨bT, oT, none⟩) m tc, .slice fa m fc, .slice ga n gc] (by rfl) HB3.out.ref.bB rfl ?_); refine hK _ _ ?_; clear hK) | (refine wpList_plain rfl (fun K hK => wp_storeT aggSkeen _ _ rfl (w.heap.size + 1) [.slice ka n kc, .slice (some ⟨bT, oT, none⟩) m tc, .slice fa m fc, .slice ga n gc] _ (by rfl) (by rfl) rfl HB3.out.ref.bR rfl rfl ?_); intro wz hBz hcz; have HB9 := Lib.hid (HB3.out.setR hBz hcz); clear hBz hcz; refine hK _ _ ?_; clear hK))
        (try simp only [Exit.inBlock, Exit.then]); refine bodyPost_ret (results_cell3 aggSkeen rfl _ _ _ _ (by rfl) HB9.out.ref.bR rfl) rfl ?_
        exact BAD.out 5 _ HE.out (by omega) HB9.out
      | true =>
      have HAH : Hid (allHere s z (j + 1) = true) := Lib.hid (by show (allHere s z j && s.here z j) = true; rw [HJ.out.2, hh]; rfl)
      have HMX : Hid (mostL s z (j + 1) = max mo tk) := Lib.hid (by show max (mostL s z j) (s.tm z j) = _; rw [HJ.out.1, HTK.out])
      rw [hh] at HHI
      have ht : (tk == 0) = false := HHI.out
      clear hh
      by_cases hmx : mo < tk
      · have hd : decide (mo < tk) = true := decide_eq_true hmx
        have HMX2 : Hid (mostL s z (j + 1) = tk) := Lib.hid (by rw [HMX.out]; omega)
        clear hmx
        have hn4 := H4.out.2
        go_wp2
        go_round
        case rel => exact ⟨j + 1, HJN.out, by go_num, tk, rfl, Lib.hid ⟨HMX2.out, HAH.out⟩⟩
        case measure => have := HJN.out; simp [intOf]; omega
      · have hd : decide (mo < tk) = false := decide_eq_false hmx
        have HMX2 : Hid (mostL s z (j + 1) = mo) := Lib.hid (by rw [HMX.out]; omega)
        clear hmx
        have hn4 := H4.out.2
        go_wp2
        go_round
        case rel => exact ⟨j + 1, HJN.out, by go_num, mo, rfl, Lib.hid ⟨HMX2.out, HAH.out⟩⟩
        case measure => have := HJN.out; simp [intOf]; omega
    · obtain rfl : n = j := by omega
      have HMO : Hid (mostL s z s.n = mo) := Lib.hid (by rw [HN.out]; exact HJ.out.1)
      have HAL : Hid (allHere s z s.n = true) := Lib.hid (by rw [HN.out]; exact HJ.out.2)
      clear HCU hjn hj HJ
      have q2 : w3.cell? ⟨w.heap.size, 2, none⟩ = some (.slice fa m fc) := HB3.out.ref.bB.cell 2
      have HRF : Hid (Rd (In S w w.heap.size (w.heap.size + 1)) w3 (.slice fa m fc) s.fL) := Lib.hid (HB3.out.at (f := .l s.fL) 2 rfl rfl)
      obtain ⟨bF, oF, cF, eF, -, hcF⟩ := HRF.out.form (by rw [s.fL_len, HM.out]; have := HKM.out; omega)
      rw [s.fL_len, HM.out] at eF
      simp only [Value.slice.injEq] at eF
      obtain ⟨rfl, -, rfl⟩ := eF
      have dF := hcF z (by rw [s.fL_len]; exact HKS.out)
      rw [s.fL_at HKS.out] at dF
      clear hcF
      obtain ⟨fx, HFX⟩ : ∃ x, Hid (setB (s.fix z) s.n = x) := ⟨_, Lib.hid rfl⟩
      have HF16 : Hid (fx < 16) := Lib.hid (by rw [← HFX.out]; exact Nat.lt_of_lt_of_le (setB_lt _ _) (show 2 ^ s.n ≤ 2 ^ 4 from Nat.pow_le_pow_right (by omega) (by rw [HN.out]; exact H4.out.2)))
      rw [HFX.out] at dF
      have HBIT := Lib.hid (fun wq => bit_any fx a (by have := HF16.out; omega) (by have := HPN.out; have := H4.out; omega) wq)
      rw [show bitB fx a = s.fix z a by rw [← HFX.out]; exact bit_setB _ _ _ HPS.out] at HBIT
      have hjn2 : ¬ (n : Int) < n := by omega
      go_wp2_with fail
      refine (HBIT.out w3).mono ?_
      rintro e w4 ⟨rfl, rfl⟩
      cases hfx : s.fix z a with
      | true =>
        have HE : Hid (s.fixErr a z = 7) := Lib.hid (by unfold SNet.fixErr; rw [if_neg (by rw [HIP.out]; simp), Int.toNat_natCast, Int.toNat_natCast, if_neg (by rw [HAL.out]; simp), if_pos hfx])
        clear hfx
        go_wp2_with (first | (refine wpList_plain rfl (fun K hK => wp_loadT aggSkeen _ rfl w.heap.size [.slice ka n kc, .slice (some ⟨bT, oT, none⟩) m tc, .slice (some ⟨bF, oF, none⟩) m fc, .slice ga n gc] (by rfl) HB3.out.ref.bB rfl ?_); refine hK _ _ ?_; clear hK) | (refine wpList_plain rfl (fun K hK => wp_storeT aggSkeen _ _ rfl (w.heap.size + 1) [.slice ka n kc, .slice (some ⟨bT, oT, none⟩) m tc, .slice (some ⟨bF, oF, none⟩) m fc, .slice ga n gc] _ (by rfl) (by rfl) rfl HB3.out.ref.bR rfl rfl ?_); intro wz hBz hcz; have HB9 := Lib.hid (HB3.out.setR hBz hcz); clear hBz hcz; refine hK _ _ ?_; clear hK))
        (try simp only [Exit.inBlock, Exit.then]); refine bodyPost_ret (results_cell3 aggSkeen rfl _ _ _ _ (by rfl) HB9.out.ref.bR rfl) rfl ?_
        exact BAD.out 7 _ HE.out (by omega) HB9.out
      | false =>
      have HE : Hid (s.fixErr a z = 0) := Lib.hid (by unfold SNet.fixErr; rw [if_neg (by rw [HIP.out]; simp), Int.toNat_natCast, Int.toNat_natCast, if_neg (by rw [HAL.out]; simp), if_neg (by rw [hfx]; simp)])
      have HDO : Hid (s.fixIt a z = (s.fix1 a z).takeAll a ∧ s.fixVal a z = mo) := Lib.hid (by unfold SNet.fixIt SNet.fixVal; rw [if_pos HE.out, if_pos HE.out, Int.toNat_natCast, Int.toNat_natCast, HMO.out]; exact ⟨rfl, rfl⟩)
      have HP1 : Hid (SPre (s.fix1 a z)) := Lib.hid (HS.out.fix1 HPS.out HKS.out HAL.out hfx).1
      have HSF := Lib.hid (fix_sf (s := s) (p := a) (k := z) HPS.out)
      rw [HMO.out, HFX.out] at HSF
      have HWI := Lib.hid (fun wq => with_any fx a (by have := HF16.out; omega) (by have := HPN.out; have := H4.out; omega) wq)
      obtain ⟨f2, HF2⟩ : ∃ x, Hid (withB fx a = x) := ⟨_, Lib.hid rfl⟩
      rw [HF2.out] at HWI HSF
      clear hfx HBIT
      go_wp2_with fail
      refine wp_region_plan (Chg NoF w3) 12 [(0,true),(1,true),(2,true),(3,true),(4,true),(5,true),(6,true),(7,true),(8,true),(9,false),(10,false),(11,true),(12,false)] mixed (by kernel_rfl) (Chg.refl _ _).drew ?_
      simp only [planOps, List.map_cons, List.map_nil, List.getElem?_cons_zero, List.getElem?_cons_succ, Option.getD_some]
      generalize hops : List.toArray _ = ops
      iterate 9 (refine wpPlan_quiet (v := ?_) rfl (fun _ _ _ h => h) (by intro w1 hS; have s0 := hS.cell_some q2 (fun h => h); have s1 := hS.cell_some dF (fun h => h); clear hS; go_simp; with_reducible rfl) ?_; (simp only [Act.put, List.setIfInBounds_toArray, List.set_cons_zero, List.set_cons_succ]))
      refine wpPlan_loud rfl (fun K hK => ?_)
      go_simp
      refine (HWI.out w3.drew).mono ?_
      rintro e w4 ⟨rfl, rfl⟩
      refine hK _ _ (fun _ => (Chg.refl NoF w3).drew) ?_
      clear hK K
      (try simp only [Act.put, List.setIfInBounds_toArray, List.set_cons_zero, List.set_cons_succ])
      refine wpPlan_loud rfl (fun K hK => ?_)
      go_simp
      have HD5 := Lib.hid (HB3.out.no ((Chg.refl NoF w3).drew))
      refine (set_ref (In S w w.heap.size (w.heap.size + 1)) _ s.fL z (f2 : Int) _ (HRF.out.keep ((Chg.refl NoF w3).drew) (fun _ _ h => h)) (by rw [s.fL_len]; exact HKS.out) (by rw [s.fL_len, HM.out]; have := H20.out; omega)).mono ?_
      rintro e w5 ⟨v5, rfl, hr5, hc5⟩
      have HL5 : Hid ((s.fL.set z (f2 : Int)).length = m) := Lib.hid (by rw [List.length_set, s.fL_len, HM.out])
      obtain ⟨a5, c5, e5⟩ := hr5.val
      rw [HL5.out] at e5
      subst e5
      have HC5 : Hid (Chg NoF w3 w5) := Lib.hid (((Chg.refl NoF w3).drew).trans hc5)
      have HX5 := Lib.hid (HD5.out.told (f := .l (s.fL.set z (f2 : Int))) hr5)
      have HN5 := Lib.hid (HB3.out.no HC5.out)
      refine hK _ _ (fun _ => HC5.out) ?_
      clear hK K hr5 hc5 HD5
      (try simp only [Act.put, List.setIfInBounds_toArray, List.set_cons_zero, List.set_cons_succ])
      (refine wpPlan_quiet (v := ?_) rfl (fun _ _ _ h => h) (by intro w1 hS; clear hS; go_simp; with_reducible rfl) ?_; (simp only [Act.put, List.setIfInBounds_toArray, List.set_cons_zero, List.set_cons_succ]))
      refine wpPlan_loud rfl (fun K hK => ?_)
      have sx : w5.cell? ⟨w.heap.size, 2, none⟩ = some (.slice (some ⟨bF, oF, none⟩) m fc) := HN5.out.ref.bB.cell 2
      have zx := HN5.out.ref.bB.frozen 2
      go_simp
      refine hK _ _ (fun h => absurd rfl h) ?_
      clear hK K
      clear hops
      refine wpPlan_nil ?_
      have HB5 := Lib.hid (HN5.out.set 2 _ _ HX5.out)
      clear sx zx q0 q1 q2 dT dF HB3 HRT HRU HRF HC5 HX5 HN5
      generalize w5.setCell _ _ = w6 at *
      have q1 : w6.cell? ⟨w.heap.size, 1, none⟩ = some (.slice (some ⟨bT, oT, none⟩) m tc) := HB5.out.ref.bB.cell 1
      have HRT : Hid (Rd2 (In S w w.heap.size (w.heap.size + 1)) w6 (.slice (some ⟨bT, oT, none⟩) m tc) s.tL) := Lib.hid (HB5.out.at (f := .r s.tL) 1 rfl rfl)
      obtain ⟨bT2, oT2, cT2, uT, eT, dT, hruT, hrlT⟩ := HRT.out.at (Chg.refl NoF w6) (fun _ _ h => h) (j := z) (by rw [s.tL_len, HM.out]; exact HKM.out)
      rw [s.tL_len, HM.out] at eT
      simp only [Value.slice.injEq, Option.some.injEq, Addr.mk.injEq, and_true] at eT
      obtain ⟨⟨rfl, rfl⟩, -, rfl⟩ := eT
      rw [s.tL_at HKS.out] at hruT hrlT
      obtain ⟨ua, uc, rfl⟩ := hruT.val
      have HRU := Lib.hid (Rd.relen hruT (show (line s.n (s.tm z)).length = n by rw [line_len, HN.out]))
      rw [line_len, HN.out] at dT
      clear hruT hrlT
      go_wp2_with fail
      refine wp_region_plan (Chg NoF w6) 13 [(0,true),(1,true),(2,true),(3,true),(4,true),(5,true),(6,true),(7,true),(8,true),(9,true),(10,false),(11,false),(12,true),(13,false)] mixed (by kernel_rfl) (Chg.refl _ _).drew ?_
      simp only [planOps, List.map_cons, List.map_nil, List.getElem?_cons_zero, List.getElem?_cons_succ, Option.getD_some]
      generalize hops : List.toArray _ = ops
      iterate 10 (refine wpPlan_quiet (v := ?_) rfl (fun _ _ _ h => h) (by intro w1 hS; have s0 := hS.cell_some q1 (fun h => h); have s1 := hS.cell_some dT (fun h => h); clear hS; go_simp; with_reducible rfl) ?_; (simp only [Act.put, List.setIfInBounds_toArray, List.set_cons_zero, List.set_cons_succ]))
      refine wpPlan_loud rfl (fun K hK => ?_)
      go_simp
      have HD7 := Lib.hid (HB5.out.no ((Chg.refl NoF w6).drew))
      refine (set_ref (In S w w.heap.size (w.heap.size + 1)) _ (line s.n (s.tm z)) a mo _ (HRU.out.keep ((Chg.refl NoF w6).drew) (fun _ _ h => h)) (by rw [line_len]; exact HPS.out) (by rw [line_len, HN.out]; have := H4.out; omega)).mono ?_
      rintro e w7 ⟨v7, rfl, hr7, hc7⟩
      have HL7 : Hid (((line s.n (s.tm z)).set a mo).length = n) := Lib.hid (by rw [List.length_set, line_len, HN.out])
      obtain ⟨a7, c7, e7⟩ := hr7.val
      rw [HL7.out] at e7
      subst e7
      have HC7 : Hid (Chg NoF w6 w7) := Lib.hid (((Chg.refl NoF w6).drew).trans hc7)
      have HX7 : Hid (Rd (In S w w.heap.size (w.heap.size + 1)) w7 (.slice a7 (n) c7) ((line s.n (s.tm z)).set a mo)) := Lib.hid (HD7.out.told (f := .l _) hr7)
      refine hK _ _ (fun _ => HC7.out) ?_
      clear hK K hr7 hc7 HD7
      (try simp only [Act.put, List.setIfInBounds_toArray, List.set_cons_zero, List.set_cons_succ])
      refine wpPlan_loud rfl (fun K hK => ?_)
      go_simp
      refine (rows_ref (In S w w.heap.size (w.heap.size + 1)) _ _ s.tL z ((line s.n (s.tm z)).set a mo) w7 (HRT.out.keep HC7.out (fun _ _ h => h)) HX7.out (by rw [HL7.out]; have := H4.out; omega) (by rw [s.tL_len, HM.out]; exact HKM.out) (by rw [s.tL_len, HM.out]; have := H20.out; omega)).mono ?_
      rintro e w8 ⟨v8, rfl, hr8, hc8⟩
      obtain ⟨a8, c8, e8⟩ := hr8.val
      rw [List.length_set, s.tL_len, HM.out] at e8
      subst e8
      have HC8 : Hid (Chg NoF w6 w8) := Lib.hid (HC7.out.trans hc8)
      have HN8 := Lib.hid (HB5.out.no HC8.out)
      have HX8 := Lib.hid ((HB5.out.no HC7.out).told (f := .r _) hr8)
      refine hK _ _ (fun _ => HC8.out) ?_
      clear hK K hr8 hc8
      (try simp only [Act.put, List.setIfInBounds_toArray, List.set_cons_zero, List.set_cons_succ])
      (refine wpPlan_quiet (v := ?_) rfl (fun _ _ _ h => h) (by intro w1 hS; clear hS; go_simp; with_reducible rfl) ?_; (simp only [Act.put, List.setIfInBounds_toArray, List.set_cons_zero, List.set_cons_succ]))
      refine wpPlan_loud rfl (fun K hK => ?_)
      have sx : w8.cell? ⟨w.heap.size, 1, none⟩ = some (.slice (some ⟨bT, oT, none⟩) m tc) := HN8.out.ref.bB.cell 1
      have zx := HN8.out.ref.bB.frozen 1
      go_simp
      refine hK _ _ (fun h => absurd rfl h) ?_
      clear hK K
      clear hops
      refine wpPlan_nil ?_
      have HB8 := Lib.hid (HN8.out.set 1 _ _ HX8.out)
      clear sx zx q1 dT HB5 HRT HRU HX7 HC7 HC8 HX8 HN8
      generalize w8.setCell _ _ = w9 at *
      have q0 : w9.cell? ⟨w.heap.size, 0, none⟩ = some (.slice ka n kc) := HB8.out.ref.bB.cell 0
      obtain ⟨ck, HCK⟩ : ∃ x, Hid (s.clk a = x) := ⟨_, Lib.hid rfl⟩
      have HRC : Hid (Rd (In S w w.heap.size (w.heap.size + 1)) w9 (.slice ka n kc) (line s.n s.clk)) := Lib.hid (HB8.out.at (f := .l (line s.n s.clk)) 0 rfl rfl)
      obtain ⟨bC, oC, cC, eC, -, hcC⟩ := HRC.out.form (by rw [line_len, HN.out]; have := HPN.out; omega)
      rw [line_len, HN.out] at eC
      simp only [Value.slice.injEq] at eC
      obtain ⟨rfl, -, rfl⟩ := eC
      have dC := hcC a (by rw [line_len]; exact HPS.out)
      rw [line_at _ HPS.out, HCK.out] at dC
      clear hcC
      clear hjn2
      go_upto_if 94 with fail
      go_cut [9] (fun b wx => b = .int .i64 mo ∧ ∃ (k1 : Option Addr) (k2 : Nat) (t1 : Option Addr) (t2 : Nat) (f1 : Option Addr) (f2 : Nat) (g1 : Option Addr) (g2 : Nat), Hid (Bx S w wx w.heap.size (w.heap.size + 1) [.slice k1 n k2, .slice t1 m t2, .slice f1 m f2, .slice g1 n g2] [.slice none 0 0, .slice none 0 0, .slice none 0 0, .slice none 0 0] (sf (s.fix1 a z))))
      case first =>
        by_cases hmx : ck < mo
        · have hd : decide (ck < mo) = true := decide_eq_true hmx
          have HMX : Hid (max (s.clk a) mo = mo) := Lib.hid (by rw [HCK.out]; omega)
          go_wp2_with fail
          refine (set_ref (In S w w.heap.size (w.heap.size + 1)) _ (line s.n s.clk) a mo w9 HRC.out (by rw [line_len]; exact HPS.out) (by rw [line_len, HN.out]; have := H4.out; omega)).mono ?_
          rintro e w9b ⟨v9, rfl, hr9, hc9⟩
          have HL9 : Hid (((line s.n s.clk).set a mo).length = n) := Lib.hid (by rw [List.length_set, line_len, HN.out])
          obtain ⟨a5b, c5b, e9⟩ := hr9.val
          rw [HL9.out] at e9
          subst e9
          have HX9 := Lib.hid (HB8.out.told (f := .l _) hr9)
          have HN9 := Lib.hid (HB8.out.no hc9)
          have HB9 : Hid (Bx S w (w9b.setCell ⟨w.heap.size, 0, none⟩ (.slice a5b n c5b)) w.heap.size (w.heap.size + 1) [.slice a5b n c5b, .slice a8 m c8, .slice a5 m c5, .slice ga n gc] [.slice none 0 0, .slice none 0 0, .slice none 0 0, .slice none 0 0] (sf (s.fix1 a z))) := Lib.hid (by
            rw [← HSF.out]
            have h1 := HN9.out.set 0 _ (.l ((line s.n s.clk).set a mo)) HX9.out
            rw [line_set s.clk] at h1
            rw [HMX.out]
            exact h1)
          clear hr9 hc9
          have q0b : w9b.cell? ⟨w.heap.size, 0, none⟩ = some (.slice (some ⟨bC, oC, none⟩) n kc) := HN9.out.ref.bB.cell 0
          have z0 := HN9.out.ref.bB.frozen 0
          go_wp2_with fail
          go_meet
          case rel => exact ⟨rfl, _, _, _, _, _, _, _, _, HB9⟩
        · have hd : decide (ck < mo) = false := decide_eq_false hmx
          have HB9 : Hid (Bx S w w9 w.heap.size (w.heap.size + 1) [.slice (some ⟨bC, oC, none⟩) n kc, .slice a8 m c8, .slice a5 m c5, .slice ga n gc] [.slice none 0 0, .slice none 0 0, .slice none 0 0, .slice none 0 0] (sf (s.fix1 a z))) := Lib.hid (by
            rw [← HSF.out]
            have h1 := HB8.out
            have e : line s.n (put1 s.clk a (max (s.clk a) mo)) = line s.n s.clk := line_congr fun q _ => by
              by_cases eq : q = a
              · subst eq; rw [put1_self, HCK.out]; omega
              · rw [put1_ne _ _ eq]
            rw [e]
            exact h1)
          go_wp2_with fail
          go_meet
          case rel => exact ⟨rfl, _, _, _, _, _, _, _, _, HB9⟩
      case rest =>
      obtain ⟨rfl, k1, k2, t1, t2, f1, f3, g1, g2, HB⟩ := hcut
      clear HB8 HSF HWI HF2 HFX HF16 HRC
      have HX : Hid ((s.fix1 a z).n = n ∧ (s.fix1 a z).m = m) := Lib.hid ⟨HN.out, HM.out⟩
      generalize s.fix1 a z = s1 at *
      go_wp2_with fail
      go_loopw [11, 12, 13] (fun i _ _ wr => ∃ f : Nat, f ≤ m + 1 ∧ i = .int .i64 f ∧ ∃ (g1 : Option Addr) (g2 : Nat) (s2 : SNet), Hid (SPre s2 ∧ s2.n = n ∧ s2.m = m ∧ takeN a (m + 1 - f) s2 = s1.takeAll a ∧ Bx S w wr w.heap.size (w.heap.size + 1) [.slice k1 n k2, .slice t1 m t2, .slice f1 m f3, .slice g1 n g2] [.slice none 0 0, .slice none 0 0, .slice none 0 0, .slice none 0 0] (sf s2))) (fun i _ _ _ => m + 1 - (intOf i).toNat)
      case atStart => exact ⟨0, Nat.zero_le _, rfl, g1, g2, s1, Lib.hid ⟨HP1.out, HX.out.1, HX.out.2, by unfold SNet.takeAll; rw [HX.out.2]; rfl, HB.out⟩⟩
      case round =>
        clear HB
        obtain ⟨f, hfm, rfl, g3, g4, s2, HR⟩ := hrel
        have HB2 : Hid (Bx S w wr w.heap.size (w.heap.size + 1) [.slice k1 n k2, .slice t1 m t2, .slice f1 m f3, .slice g3 n g4] [.slice none 0 0, .slice none 0 0, .slice none 0 0, .slice none 0 0] (sf s2)) := Lib.hid HR.out.2.2.2.2
        have HS2 : Hid (SPre s2 ∧ s2.n = n ∧ s2.m = m) := Lib.hid ⟨HR.out.1, HR.out.2.1, HR.out.2.2.1⟩
        have HTN : Hid (takeN a (m + 1 - f) s2 = s1.takeAll a) := Lib.hid HR.out.2.2.2.1
        have q1 : wr.cell? ⟨w.heap.size, 1, none⟩ = some (.slice t1 m t2) := HB2.out.ref.bB.cell 1
        clear HR
        by_cases hf : f ≤ m
        · have hf1 : (f : Int) ≤ m := by omega
          have HFM : Hid (f + 1 ≤ m + 1) := Lib.hid (by omega)
          clear hf hfm
          go_wp2_with fail
          clear q1
          go_loopw [12, 13] (fun b j wq => ∃ k : Nat, k ≤ m ∧ j = .int .i64 k ∧ b = .int .i64 (bestL s2 a k) ∧ Hid (Bx S w wq w.heap.size (w.heap.size + 1) [.slice k1 n k2, .slice t1 m t2, .slice f1 m f3, .slice g3 n g4] [.slice none 0 0, .slice none 0 0, .slice none 0 0, .slice none 0 0] (sf s2))) (fun _ j _ => m - (intOf j).toNat)
          case atStart => exact ⟨0, Nat.zero_le _, rfl, rfl, HB2⟩
          case round =>
            clear HB2
            obtain ⟨k, hkm, rfl, rfl, HK⟩ := hrel
            have q1 : wr.cell? ⟨w.heap.size, 1, none⟩ = some (.slice t1 m t2) := HK.out.ref.bB.cell 1
            by_cases hk : k < m
            · have hk1 : (k : Int) < m := by omega
              have HKN : Hid (k + 1 ≤ m) := Lib.hid hk
              have HPS2 : Hid (a < s2.n) := Lib.hid (by rw [HS2.out.2.1]; exact HPN.out)
              have HKS2 : Hid (k < s2.m) := Lib.hid (by rw [HS2.out.2.2]; exact hk)
              clear hk hkm
              have HRT : Hid (Rd2 (In S w w.heap.size (w.heap.size + 1)) wr (.slice t1 m t2) s2.tL) := Lib.hid (HK.out.at (f := .r s2.tL) 1 rfl rfl)
              obtain ⟨bT, oT, cT, uT, eT, dT, hruT, hrlT⟩ := HRT.out.at (Chg.refl NoF wr) (fun _ _ h => h) (j := k) (by rw [s2.tL_len]; exact HKS2.out)
              rw [s2.tL_len, HS2.out.2.2] at eT
              simp only [Value.slice.injEq] at eT
              obtain ⟨rfl, -, rfl⟩ := eT
              rw [s2.tL_at HKS2.out] at hruT hrlT
              obtain ⟨bU, oU, cU, rfl, -, hcU⟩ := hruT.form (by rw [line_len]; have := HPS2.out; omega)
              rw [line_len, HS2.out.2.1] at dT
              have dU := hcU a (by rw [line_len]; exact HPS2.out)
              rw [line_at _ HPS2.out] at dU
              obtain ⟨tk, HTK⟩ : ∃ x, Hid (s2.tm k a = x) := ⟨_, Lib.hid rfl⟩
              rw [HTK.out] at dU
              have HHI := Lib.hid (here_iff HS2.out.1 HPS2.out HKS2.out)
              rw [HTK.out] at HHI
              clear hcU hruT hrlT
              cases hh : s2.here k a with
              | false =>
                have HBE : Hid (bestL s2 a (k + 1) = bestL s2 a k) := Lib.hid (by
                  rw [bestL, if_neg]; intro h; have := ((s2.pends_iff a k).1 h.1).1; rw [hh] at this; cases this)
                rw [hh] at HHI
                have ht : (tk != 0) = false := by have := HHI.out; rw [bne, this]; rfl
                clear hh
                obtain ⟨bs, HBS⟩ : ∃ x, Hid (bestL s2 a k = x) := ⟨_, Lib.hid rfl⟩
                rw [HBS.out] at HBE ⊢
                go_wp2_with fail
                refine wp_region_plan (Chg NoF wr) 42 [(0,true),(1,true),(2,true),(3,true),(4,true),(5,true),(6,true),(7,true),(8,true),(9,true),(10,true),(11,true),(12,true),(13,true),(14,true),(15,true),(16,false),(17,true),(18,true),(19,true),(20,true),(21,true),(22,true),(23,true),(24,true),(25,true),(26,true),(27,true),(28,true),(29,true),(30,true),(31,true),(32,true),(33,true),(34,true),(35,true),(36,true),(37,true),(38,true),(39,true),(40,true),(41,true)] mixed (by kernel_rfl) (Chg.refl _ _).drew ?_
                simp only [planOps, List.map_cons, List.map_nil, List.getElem?_cons_zero, List.getElem?_cons_succ, Option.getD_some]
                generalize hops : List.toArray _ = ops
                iterate 10 (refine wpPlan_quiet (v := ?_) rfl (fun _ _ _ h => h) (by intro w1 hS; have s0 := hS.cell_some q1 (fun h => h); have s1 := hS.cell_some dT (fun h => h); have s2 := hS.cell_some dU (fun h => h); clear hS; go_simp; with_reducible rfl) ?_; (simp only [Act.put, List.setIfInBounds_toArray, List.set_cons_zero, List.set_cons_succ]))
                iterate 6 (refine wpPlan_skip (by rw [← hops]; rfl) (fun _ _ _ h => h) ?_; (simp only [Act.put, List.setIfInBounds_toArray, List.set_cons_zero, List.set_cons_succ]))
                refine wpPlan_loudN (by rw [← hops]; rfl) (Chg.refl _ _).drew ?_
                (try simp only [Act.put, List.setIfInBounds_toArray, List.set_cons_zero, List.set_cons_succ])
                iterate 1 (refine wpPlan_skip (by rw [← hops]; rfl) (fun _ _ _ h => h) ?_; (simp only [Act.put, List.setIfInBounds_toArray, List.set_cons_zero, List.set_cons_succ]))
                iterate 2 (refine wpPlan_quiet (v := ?_) rfl (fun _ _ _ h => h) (by intro w1 hS; clear hS; go_simp; with_reducible rfl) ?_; (simp only [Act.put, List.setIfInBounds_toArray, List.set_cons_zero, List.set_cons_succ]))
                iterate 21 (refine wpPlan_skip (by rw [← hops]; rfl) (fun _ _ _ h => h) ?_; (simp only [Act.put, List.setIfInBounds_toArray, List.set_cons_zero, List.set_cons_succ]))
                (refine wpPlan_quiet (v := ?_) rfl (fun _ _ _ h => h) (by intro w1 hS; clear hS; go_simp; with_reducible rfl) ?_; (simp only [Act.put, List.setIfInBounds_toArray, List.set_cons_zero, List.set_cons_succ]))
                clear hops
                refine wpPlan_nil ?_
                clear q1 dT dU ht
                have HK3 := Lib.hid (HK.out.no ((Chg.refl NoF wr).drew))
                have hkx := HKN.out
                have hm20 := H20.out
                go_wp2
                go_roundw
                case rel => exact ⟨k + 1, HKN.out, by go_num, by rw [HBE.out], HK3⟩
                case measure => have := HKN.out; simp [intOf]; omega
              | true =>
              rw [hh] at HHI
              have ht : (tk != 0) = true := by have := HHI.out; rw [bne, this]; rfl
              have HH := Lib.hid hh
              clear hh
              have q3 : wr.cell? ⟨w.heap.size, 3, none⟩ = some (.slice g3 n g4) := HK.out.ref.bB.cell 3
              have HRG : Hid (Rd2 (In S w w.heap.size (w.heap.size + 1)) wr (.slice g3 n g4) s2.gL) := Lib.hid (HK.out.at (f := .r s2.gL) 3 rfl rfl)
              obtain ⟨bG, oG, cG, uG, eG, dG, hruG, hrlG⟩ := HRG.out.at (Chg.refl NoF wr) (fun _ _ h => h) (j := a) (by rw [s2.gL_len]; exact HPS2.out)
              rw [s2.gL_len, HS2.out.2.1] at eG
              simp only [Value.slice.injEq] at eG
              obtain ⟨rfl, -, rfl⟩ := eG
              rw [s2.gL_at HPS2.out] at hruG hrlG
              have HRUG := Lib.hid hruG
              obtain ⟨ua, uc, rfl⟩ := hruG.val
              obtain ⟨gl, HGL⟩ : ∃ x, Hid ((s2.got a).length = x) := ⟨_, Lib.hid rfl⟩
              rw [HGL.out] at dG HRUG
              have HG20 : Hid (gl ≤ 20) := Lib.hid (by rw [← HGL.out]; have := HS2.out.1.got_le HPS2.out; have := HS2.out.1.m20; omega)
              have HHAS := Lib.hid (has_ref (In S w w.heap.size (w.heap.size + 1)) _ (s2.got a) (k : Int) wr.drew (HRUG.out.keep ((Chg.refl NoF wr).drew) (fun _ _ h => h)) (by rw [HGL.out]; have := HG20.out; omega))
              clear hruG hrlG
              cases hct : (s2.got a).contains (k : Int) with
              | true =>
                have HBE : Hid (bestL s2 a (k + 1) = bestL s2 a k) := Lib.hid (by
                  rw [bestL, if_neg]; intro h; have := ((s2.pends_iff a k).1 h.1).2; exact this (List.contains_iff_mem.1 hct))
                rw [hct] at HHAS
                clear hct
                obtain ⟨bs, HBS⟩ : ∃ x, Hid (bestL s2 a k = x) := ⟨_, Lib.hid rfl⟩
                rw [HBS.out] at HBE ⊢
                go_wp2_with fail
                refine wp_region_plan (Chg NoF wr) 42 [(0,true),(1,true),(2,true),(3,true),(4,true),(5,true),(6,true),(7,true),(8,true),(9,true),(10,true),(11,true),(12,true),(13,true),(14,true),(15,true),(16,false),(17,true),(18,true),(19,true),(20,true),(21,true),(22,true),(23,true),(24,true),(25,true),(26,true),(27,true),(28,true),(29,true),(30,true),(31,true),(32,true),(33,true),(34,true),(35,true),(36,true),(37,true),(38,true),(39,true),(40,true),(41,true)] mixed (by kernel_rfl) (Chg.refl _ _).drew ?_
                simp only [planOps, List.map_cons, List.map_nil, List.getElem?_cons_zero, List.getElem?_cons_succ, Option.getD_some]
                generalize hops : List.toArray _ = ops
                iterate 10 (refine wpPlan_quiet (v := ?_) rfl (fun _ _ _ h => h) (by intro w1 hS; have s0 := hS.cell_some q1 (fun h => h); have s1 := hS.cell_some dT (fun h => h); have s2 := hS.cell_some dU (fun h => h); clear hS; go_simp; with_reducible rfl) ?_; (simp only [Act.put, List.setIfInBounds_toArray, List.set_cons_zero, List.set_cons_succ]))
                iterate 6 (refine wpPlan_quietG (v := ?_) (by rw [← hops]; rfl) (fun _ _ _ h => h) (by intro w1 hS; have s0 := hS.cell_some q3 (fun h => h); have s1 := hS.cell_some dG (fun h => h); clear hS; go_simp; with_reducible rfl) ?_; (simp only [Act.put, List.setIfInBounds_toArray, List.set_cons_zero, List.set_cons_succ]))
                refine wpPlan_loudG (by rw [← hops]; rfl) (fun K hK => ?_)
                go_simp
                refine HHAS.out.mono ?_
                rintro e w6 ⟨rfl, rfl⟩
                refine hK _ _ (fun _ => (Chg.refl NoF wr).drew) ?_
                clear hK K
                (try simp only [Act.put, List.setIfInBounds_toArray, List.set_cons_zero, List.set_cons_succ])
                (refine wpPlan_quietG (v := ?_) (by rw [← hops]; rfl) (fun _ _ _ h => h) (by intro w1 hS; clear hS; go_simp; with_reducible rfl) ?_; (simp only [Act.put, List.setIfInBounds_toArray, List.set_cons_zero, List.set_cons_succ]))
                iterate 2 (refine wpPlan_quiet (v := ?_) rfl (fun _ _ _ h => h) (by intro w1 hS; clear hS; go_simp; with_reducible rfl) ?_; (simp only [Act.put, List.setIfInBounds_toArray, List.set_cons_zero, List.set_cons_succ]))
                iterate 21 (refine wpPlan_skip (by rw [← hops]; rfl) (fun _ _ _ h => h) ?_; (simp only [Act.put, List.setIfInBounds_toArray, List.set_cons_zero, List.set_cons_succ]))
                (refine wpPlan_quiet (v := ?_) rfl (fun _ _ _ h => h) (by intro w1 hS; clear hS; go_simp; with_reducible rfl) ?_; (simp only [Act.put, List.setIfInBounds_toArray, List.set_cons_zero, List.set_cons_succ]))
                clear hops
                refine wpPlan_nil ?_
                clear q1 q3 dT dU dG ht
                have HK3 := Lib.hid (HK.out.no ((Chg.refl NoF wr).drew))
                have hkx := HKN.out
                have hm20 := H20.out
                go_wp2
                go_roundw
                case rel => exact ⟨k + 1, HKN.out, by go_num, by rw [HBE.out], HK3⟩
                case measure => have := HKN.out; simp [intOf]; omega
              | false =>
              have HPE : Hid (s2.pends a k = true) := Lib.hid ((s2.pends_iff a k).2 ⟨HH.out, fun hm => by rw [List.contains_iff_mem.2 hm] at hct; cases hct⟩)
              rw [hct] at HHAS
              clear hct
              rcases best_spec s2 a k with ⟨hb, -⟩ | ⟨b, hb, hbk, -⟩
              · have HBE : Hid (bestL s2 a (k + 1) = k) := Lib.hid (by rw [bestL, if_pos ⟨HPE.out, .inl (by omega)⟩])
                rw [hb]
                clear hb
                go_wp2_with fail
                refine wp_region_plan (Chg NoF wr) 42 [(0,true),(1,true),(2,true),(3,true),(4,true),(5,true),(6,true),(7,true),(8,true),(9,true),(10,true),(11,true),(12,true),(13,true),(14,true),(15,true),(16,false),(17,true),(18,true),(19,true),(20,true),(21,true),(22,true),(23,true),(24,true),(25,true),(26,true),(27,true),(28,true),(29,true),(30,true),(31,true),(32,true),(33,true),(34,true),(35,true),(36,true),(37,true),(38,true),(39,true),(40,true),(41,true)] mixed (by kernel_rfl) (Chg.refl _ _).drew ?_
                simp only [planOps, List.map_cons, List.map_nil, List.getElem?_cons_zero, List.getElem?_cons_succ, Option.getD_some]
                generalize hops : List.toArray _ = ops
                iterate 10 (refine wpPlan_quiet (v := ?_) rfl (fun _ _ _ h => h) (by intro w1 hS; have s0 := hS.cell_some q1 (fun h => h); have s1 := hS.cell_some dT (fun h => h); have s2 := hS.cell_some dU (fun h => h); clear hS; go_simp; with_reducible rfl) ?_; (simp only [Act.put, List.setIfInBounds_toArray, List.set_cons_zero, List.set_cons_succ]))
                iterate 6 (refine wpPlan_quietG (v := ?_) (by rw [← hops]; rfl) (fun _ _ _ h => h) (by intro w1 hS; have s0 := hS.cell_some q3 (fun h => h); have s1 := hS.cell_some dG (fun h => h); clear hS; go_simp; with_reducible rfl) ?_; (simp only [Act.put, List.setIfInBounds_toArray, List.set_cons_zero, List.set_cons_succ]))
                refine wpPlan_loudG (by rw [← hops]; rfl) (fun K hK => ?_)
                go_simp
                refine HHAS.out.mono ?_
                rintro e w6 ⟨rfl, rfl⟩
                refine hK _ _ (fun _ => (Chg.refl NoF wr).drew) ?_
                clear hK K
                (try simp only [Act.put, List.setIfInBounds_toArray, List.set_cons_zero, List.set_cons_succ])
                (refine wpPlan_quietG (v := ?_) (by rw [← hops]; rfl) (fun _ _ _ h => h) (by intro w1 hS; clear hS; go_simp; with_reducible rfl) ?_; (simp only [Act.put, List.setIfInBounds_toArray, List.set_cons_zero, List.set_cons_succ]))
                iterate 2 (refine wpPlan_quiet (v := ?_) rfl (fun _ _ _ h => h) (by intro w1 hS; clear hS; go_simp; with_reducible rfl) ?_; (simp only [Act.put, List.setIfInBounds_toArray, List.set_cons_zero, List.set_cons_succ]))
                iterate 3 (refine wpPlan_quietG (v := ?_) (by rw [← hops]; rfl) (fun _ _ _ h => h) (by intro w1 hS; clear hS; go_simp; with_reducible rfl) ?_; (simp only [Act.put, List.setIfInBounds_toArray, List.set_cons_zero, List.set_cons_succ]))
                iterate 17 (refine wpPlan_skip (by rw [← hops]; rfl) (fun _ _ _ h => h) ?_; (simp only [Act.put, List.setIfInBounds_toArray, List.set_cons_zero, List.set_cons_succ]))
                (refine wpPlan_quietG (v := ?_) (by rw [← hops]; rfl) (fun _ _ _ h => h) (by intro w1 hS; clear hS; go_simp; with_reducible rfl) ?_; (simp only [Act.put, List.setIfInBounds_toArray, List.set_cons_zero, List.set_cons_succ]))
                (refine wpPlan_quiet (v := ?_) rfl (fun _ _ _ h => h) (by intro w1 hS; clear hS; go_simp; with_reducible rfl) ?_; (simp only [Act.put, List.setIfInBounds_toArray, List.set_cons_zero, List.set_cons_succ]))
                clear hops
                refine wpPlan_nil ?_
                clear q1 q3 dT dU dG ht
                have HK3 := Lib.hid (HK.out.no ((Chg.refl NoF wr).drew))
                have hkx := HKN.out
                have hm20 := H20.out
                go_wp2
                go_roundw
                case rel => exact ⟨k + 1, HKN.out, by go_num, by rw [HBE.out], HK3⟩
                case measure => have := HKN.out; simp [intOf]; omega
              · have HBM : Hid (b < s2.m) := Lib.hid (by have := HKS2.out; omega)
                have hbm2 : (b : Int) < m := by have := HBM.out; have := HS2.out.2.2; omega
                have hb0 : ¬ (b : Int) < 0 := by omega
                obtain ⟨bY, oY, cY, uY, eY, dY, hruY, hrlY⟩ := HRT.out.at (Chg.refl NoF wr) (fun _ _ h => h) (j := b) (by rw [s2.tL_len]; exact HBM.out)
                rw [s2.tL_len, HS2.out.2.2] at eY
                simp only [Value.slice.injEq, Option.some.injEq, Addr.mk.injEq, and_true] at eY
                obtain ⟨⟨rfl, rfl⟩, -, rfl⟩ := eY
                rw [s2.tL_at HBM.out] at hruY hrlY
                obtain ⟨bZ, oZ, cZ, rfl, -, hcZ⟩ := hruY.form (by rw [line_len]; have := HPS2.out; omega)
                rw [line_len, HS2.out.2.1] at dY
                have dZ := hcZ a (by rw [line_len]; exact HPS2.out)
                rw [line_at _ HPS2.out] at dZ
                obtain ⟨tb, HTB⟩ : ∃ x, Hid (s2.tm b a = x) := ⟨_, Lib.hid rfl⟩
                rw [HTB.out] at dZ
                have HBE : Hid (bestL s2 a (k + 1) = if tk < tb then (k : Int) else b) := Lib.hid (by
                  rw [bestL, hb, Int.toNat_natCast, HTB.out, HTK.out]
                  by_cases e : tk < tb
                  · rw [if_pos ⟨HPE.out, .inr e⟩, if_pos e]
                  · rw [if_neg (fun hh => hh.2.elim (fun h1 => absurd h1 (by omega)) (fun h1 => e h1)), if_neg e])
                rw [hb]
                clear hb hbk hcZ hruY hrlY
                go_wp2_with fail
                refine wp_region_plan (Chg NoF wr) 42 [(0,true),(1,true),(2,true),(3,true),(4,true),(5,true),(6,true),(7,true),(8,true),(9,true),(10,true),(11,true),(12,true),(13,true),(14,true),(15,true),(16,false),(17,true),(18,true),(19,true),(20,true),(21,true),(22,true),(23,true),(24,true),(25,true),(26,true),(27,true),(28,true),(29,true),(30,true),(31,true),(32,true),(33,true),(34,true),(35,true),(36,true),(37,true),(38,true),(39,true),(40,true),(41,true)] mixed (by kernel_rfl) (Chg.refl _ _).drew ?_
                simp only [planOps, List.map_cons, List.map_nil, List.getElem?_cons_zero, List.getElem?_cons_succ, Option.getD_some]
                generalize hops : List.toArray _ = ops
                iterate 10 (refine wpPlan_quiet (v := ?_) rfl (fun _ _ _ h => h) (by intro w1 hS; have s0 := hS.cell_some q1 (fun h => h); have s1 := hS.cell_some dT (fun h => h); have s2 := hS.cell_some dU (fun h => h); clear hS; go_simp; with_reducible rfl) ?_; (simp only [Act.put, List.setIfInBounds_toArray, List.set_cons_zero, List.set_cons_succ]))
                iterate 6 (refine wpPlan_quietG (v := ?_) (by rw [← hops]; rfl) (fun _ _ _ h => h) (by intro w1 hS; have s0 := hS.cell_some q3 (fun h => h); have s1 := hS.cell_some dG (fun h => h); clear hS; go_simp; with_reducible rfl) ?_; (simp only [Act.put, List.setIfInBounds_toArray, List.set_cons_zero, List.set_cons_succ]))
                refine wpPlan_loudG (by rw [← hops]; rfl) (fun K hK => ?_)
                go_simp
                refine HHAS.out.mono ?_
                rintro e w6 ⟨rfl, rfl⟩
                refine hK _ _ (fun _ => (Chg.refl NoF wr).drew) ?_
                clear hK K
                (try simp only [Act.put, List.setIfInBounds_toArray, List.set_cons_zero, List.set_cons_succ])
                (refine wpPlan_quietG (v := ?_) (by rw [← hops]; rfl) (fun _ _ _ h => h) (by intro w1 hS; clear hS; go_simp; with_reducible rfl) ?_; (simp only [Act.put, List.setIfInBounds_toArray, List.set_cons_zero, List.set_cons_succ]))
                iterate 2 (refine wpPlan_quiet (v := ?_) rfl (fun _ _ _ h => h) (by intro w1 hS; clear hS; go_simp; with_reducible rfl) ?_; (simp only [Act.put, List.setIfInBounds_toArray, List.set_cons_zero, List.set_cons_succ]))
                iterate 3 (refine wpPlan_quietG (v := ?_) (by rw [← hops]; rfl) (fun _ _ _ h => h) (by intro w1 hS; clear hS; go_simp; with_reducible rfl) ?_; (simp only [Act.put, List.setIfInBounds_toArray, List.set_cons_zero, List.set_cons_succ]))
                iterate 17 (refine wpPlan_quietG (v := ?_) (by rw [← hops]; rfl) (fun _ _ _ h => h) (by intro w1 hS; have s0 := hS.cell_some q1 (fun h => h); have s1 := hS.cell_some dT (fun h => h); have s2 := hS.cell_some dU (fun h => h); have s3 := hS.cell_some dY (fun h => h); have s4 := hS.cell_some dZ (fun h => h); clear hS; go_simp; with_reducible rfl) ?_; (simp only [Act.put, List.setIfInBounds_toArray, List.set_cons_zero, List.set_cons_succ]))
                (refine wpPlan_quietG (v := ?_) (by rw [← hops]; rfl) (fun _ _ _ h => h) (by intro w1 hS; clear hS; go_simp; with_reducible rfl) ?_; (simp only [Act.put, List.setIfInBounds_toArray, List.set_cons_zero, List.set_cons_succ]))
                (refine wpPlan_quiet (v := ?_) rfl (fun _ _ _ h => h) (by intro w1 hS; clear hS; go_simp; with_reducible rfl) ?_; (simp only [Act.put, List.setIfInBounds_toArray, List.set_cons_zero, List.set_cons_succ]))
                clear hops
                refine wpPlan_nil ?_
                clear q1 q3 dT dU dG dY dZ ht
                by_cases hlt : tk < tb
                · have HB2 : Hid (bestL s2 a (k + 1) = k) := Lib.hid (by rw [HBE.out, if_pos hlt])
                  have HK3 := Lib.hid (HK.out.no ((Chg.refl NoF wr).drew))
                  have hkx := HKN.out
                  have hm20 := H20.out
                  go_wp2
                  go_roundw
                  case rel => exact ⟨k + 1, HKN.out, by go_num, by rw [HB2.out], HK3⟩
                  case measure => have := HKN.out; simp [intOf]; omega
                · have HB2 : Hid (bestL s2 a (k + 1) = b) := Lib.hid (by rw [HBE.out, if_neg hlt])
                  have HK3 := Lib.hid (HK.out.no ((Chg.refl NoF wr).drew))
                  have hkx := HKN.out
                  have hm20 := H20.out
                  go_wp2
                  go_roundw
                  case rel => exact ⟨k + 1, HKN.out, by go_num, by rw [HB2.out], HK3⟩
                  case measure => have := HKN.out; simp [intOf]; omega
            · obtain rfl : m = k := by omega
              have hk2 : ¬ (m : Int) < m := by omega
              have HPS2 : Hid (a < s2.n) := Lib.hid (by rw [HS2.out.2.1]; exact HPN.out)
              clear hk hkm
              rcases best_spec s2 a m with ⟨hb, -⟩ | ⟨b, hb, hbk, -⟩
              · have HST : Hid (s2.stops a) := Lib.hid (.inl (by rw [HS2.out.2.2, hb]; omega))
                have HTN2 : Hid (takeN a (m + 1 - (f + 1)) s2 = s1.takeAll a) := Lib.hid (by
                  rw [← HTN.out]
                  obtain ⟨e, he⟩ : ∃ e, m + 1 - f = e + 1 := ⟨m - f, by have := HFM.out; omega⟩
                  rw [he, show m + 1 - (f + 1) = e by omega]
                  exact (takeN_stop HST.out).symm)
                rw [hb]
                clear hb
                have hfx := HFM.out
                have hm20 := H20.out
                go_wp2
                go_roundw
                case rel => first | exact ⟨f + 1, HFM.out, by go_num, _, _, s2, Lib.hid ⟨HS2.out.1, HS2.out.2.1, HS2.out.2.2, HTN2.out, HK.out⟩⟩ | ((repeat apply Exists.intro); exact ⟨⟨HFM.out, by go_num, _, _, s2, Lib.hid ⟨HS2.out.1, HS2.out.2.1, HS2.out.2.2, HTN2.out, HK.out⟩⟩, rfl⟩)
                case measure => have := HFM.out; simp [intOf]; omega
              · have HBM : Hid (b < s2.m) := Lib.hid (by rw [HS2.out.2.2]; exact hbk)
                have hbm2 : (b : Int) < m := by omega
                have hb0 : (0 : Int) ≤ b := by omega
                have HBB : Hid (bestL s2 a s2.m = b) := Lib.hid (by rw [HS2.out.2.2]; exact hb)
                rw [hb]
                clear hb hbk
                have q2 : wr.cell? ⟨w.heap.size, 2, none⟩ = some (.slice f1 m f3) := HK.out.ref.bB.cell 2
                have HRF : Hid (Rd (In S w w.heap.size (w.heap.size + 1)) wr (.slice f1 m f3) s2.fL) := Lib.hid (HK.out.at (f := .l s2.fL) 2 rfl rfl)
                obtain ⟨bF, oF, cF, eF, -, hcF⟩ := HRF.out.form (by rw [s2.fL_len]; have := HBM.out; omega)
                rw [s2.fL_len, HS2.out.2.2] at eF
                simp only [Value.slice.injEq] at eF
                obtain ⟨rfl, -, rfl⟩ := eF
                have dF := hcF b (by rw [s2.fL_len]; exact HBM.out)
                rw [s2.fL_at HBM.out] at dF
                clear hcF
                obtain ⟨fx, HFX⟩ : ∃ x, Hid (setB (s2.fix b) s2.n = x) := ⟨_, Lib.hid rfl⟩
                have HF16 : Hid (fx < 16) := Lib.hid (by rw [← HFX.out]; exact Nat.lt_of_lt_of_le (setB_lt _ _) (show 2 ^ s2.n ≤ 2 ^ 4 from Nat.pow_le_pow_right (by omega) (by rw [HS2.out.2.1]; exact H4.out.2)))
                rw [HFX.out] at dF
                have HBIT := Lib.hid (fun wq => bit_any fx a (by have := HF16.out; omega) (by have := HPN.out; have := H4.out; omega) wq)
                rw [show bitB fx a = s2.fix b a by rw [← HFX.out]; exact bit_setB _ _ _ HPS2.out] at HBIT
                go_wp2_with fail
                refine (HBIT.out wr).mono ?_
                rintro e w4 ⟨rfl, rfl⟩
                clear q2 dF HBIT
                cases hfx : s2.fix b a with
                | false =>
                  have HST : Hid (s2.stops a) := Lib.hid (.inr (by rw [HBB.out, Int.toNat_natCast]; exact hfx))
                  have HTN2 : Hid (takeN a (m + 1 - (f + 1)) s2 = s1.takeAll a) := Lib.hid (by
                    rw [← HTN.out]
                    obtain ⟨e, he⟩ : ∃ e, m + 1 - f = e + 1 := ⟨m - f, by have := HFM.out; omega⟩
                    rw [he, show m + 1 - (f + 1) = e by omega]
                    exact (takeN_stop HST.out).symm)
                  clear hfx
                  have hfx := HFM.out
                  have hm20 := H20.out
                  go_wp2
                  go_roundw
                  case rel => first | exact ⟨f + 1, HFM.out, by go_num, _, _, s2, Lib.hid ⟨HS2.out.1, HS2.out.2.1, HS2.out.2.2, HTN2.out, HK.out⟩⟩ | ((repeat apply Exists.intro); exact ⟨⟨HFM.out, by go_num, _, _, s2, Lib.hid ⟨HS2.out.1, HS2.out.2.1, HS2.out.2.2, HTN2.out, HK.out⟩⟩, rfl⟩)
                  case measure => have := HFM.out; simp [intOf]; omega
                | true =>
                have hns : ¬ s2.stops a := fun hh => by
                  rcases hh with hh | hh
                  · rw [HBB.out] at hh; omega
                  · rw [HBB.out, Int.toNat_natCast, hfx] at hh; cases hh
                have HT1 : Hid (SPre (s2.take1 a) ∧ (s2.got a).length < s2.m) := Lib.hid (HS2.out.1.take1 HPS2.out hns)
                have HTN2 : Hid (takeN a (m + 1 - (f + 1)) (s2.take1 a) = s1.takeAll a) := Lib.hid (by
                  rw [← HTN.out]
                  obtain ⟨e, he⟩ : ∃ e, m + 1 - f = e + 1 := ⟨m - f, by have := HFM.out; omega⟩
                  rw [he, show m + 1 - (f + 1) = e by omega]
                  exact (takeN_more hns).symm)
                have HSF : Hid ((sf s2).set 3 (.r (s2.gL.set a (s2.got a ++ [(b : Int)]))) = sf (s2.take1 a)) := Lib.hid (by rw [← HBB.out]; exact take_sf s2)
                clear hfx hns
                have q3 : wr.cell? ⟨w.heap.size, 3, none⟩ = some (.slice g3 n g4) := HK.out.ref.bB.cell 3
                have HRG : Hid (Rd2 (In S w w.heap.size (w.heap.size + 1)) wr (.slice g3 n g4) s2.gL) := Lib.hid (HK.out.at (f := .r s2.gL) 3 rfl rfl)
                obtain ⟨bG, oG, cG, uG, eG, dG, hruG, hrlG⟩ := HRG.out.at (Chg.refl NoF wr) (fun _ _ h => h) (j := a) (by rw [s2.gL_len]; exact HPS2.out)
                rw [s2.gL_len, HS2.out.2.1] at eG
                simp only [Value.slice.injEq] at eG
                obtain ⟨rfl, -, rfl⟩ := eG
                rw [s2.gL_at HPS2.out] at hruG hrlG
                have HRUG := Lib.hid hruG
                obtain ⟨ua, uc, rfl⟩ := hruG.val
                obtain ⟨gl, HGL⟩ : ∃ x, Hid ((s2.got a).length = x) := ⟨_, Lib.hid rfl⟩
                rw [HGL.out] at dG HRUG
                have HG20 : Hid (gl < 20) := Lib.hid (by rw [← HGL.out]; have := HT1.out.2; have := HS2.out.1.m20; omega)
                clear hruG hrlG
                go_wp2_with fail
                refine wp_region_plan (Chg NoF wr) 12 [(0,true),(1,true),(2,true),(3,true),(4,true),(5,true),(6,true),(7,true),(8,true),(9,false),(10,false),(11,true),(12,false)] mixed (by kernel_rfl) (Chg.refl _ _).drew ?_
                simp only [planOps, List.map_cons, List.map_nil, List.getElem?_cons_zero, List.getElem?_cons_succ, Option.getD_some]
                generalize hops : List.toArray _ = ops
                iterate 9 (refine wpPlan_quiet (v := ?_) rfl (fun _ _ _ h => h) (by intro w1 hS; have s0 := hS.cell_some q3 (fun h => h); have s1 := hS.cell_some dG (fun h => h); clear hS; go_simp; with_reducible rfl) ?_; (simp only [Act.put, List.setIfInBounds_toArray, List.set_cons_zero, List.set_cons_succ]))
                refine wpPlan_loud rfl (fun K hK => ?_)
                go_simp
                have HD6 := Lib.hid (HK.out.no ((Chg.refl NoF wr).drew))
                refine (more_ref (In S w w.heap.size (w.heap.size + 1)) _ (s2.got a) (b : Int) _ (HRUG.out.keep ((Chg.refl NoF wr).drew) (fun _ _ h => h)) (by rw [HGL.out]; have := HG20.out; omega)).mono ?_
                rintro e w6 ⟨v6, rfl, hr6, hc6⟩
                have HL6 : Hid ((s2.got a ++ [(b : Int)]).length = gl + 1) := Lib.hid (by rw [List.length_append, HGL.out]; rfl)
                obtain ⟨a6, c6, e6⟩ := hr6.val
                rw [HL6.out] at e6
                subst e6
                have HC6 : Hid (Chg NoF wr w6) := Lib.hid (((Chg.refl NoF wr).drew).trans hc6)
                have HX6 : Hid (Rd (In S w w.heap.size (w.heap.size + 1)) w6 (.slice a6 (gl + 1) c6) (s2.got a ++ [(b : Int)])) := Lib.hid (HD6.out.told (f := .l _) hr6)
                refine hK _ _ (fun _ => HC6.out) ?_
                clear hK K hr6 hc6 HD6
                (try simp only [Act.put, List.setIfInBounds_toArray, List.set_cons_zero, List.set_cons_succ])
                refine wpPlan_loud rfl (fun K hK => ?_)
                go_simp
                refine (rows_ref (In S w w.heap.size (w.heap.size + 1)) _ _ s2.gL a (s2.got a ++ [(b : Int)]) w6 (HRG.out.keep HC6.out (fun _ _ h => h)) HX6.out (by rw [HL6.out]; have := HG20.out; omega) (by rw [s2.gL_len, HS2.out.2.1]; exact HPN.out) (by rw [s2.gL_len, HS2.out.2.1]; have := H4.out; omega)).mono ?_
                rintro e w7 ⟨v7, rfl, hr7, hc7⟩
                obtain ⟨a7, c7, e7⟩ := hr7.val
                rw [List.length_set, s2.gL_len, HS2.out.2.1] at e7
                subst e7
                have HC7 : Hid (Chg NoF wr w7) := Lib.hid (HC6.out.trans hc7)
                have HN7 := Lib.hid (HK.out.no HC7.out)
                have HX7 := Lib.hid ((HK.out.no HC6.out).told (f := .r _) hr7)
                refine hK _ _ (fun _ => HC7.out) ?_
                clear hK K hr7 hc7
                (try simp only [Act.put, List.setIfInBounds_toArray, List.set_cons_zero, List.set_cons_succ])
                (refine wpPlan_quiet (v := ?_) rfl (fun _ _ _ h => h) (by intro w1 hS; clear hS; go_simp; with_reducible rfl) ?_; (simp only [Act.put, List.setIfInBounds_toArray, List.set_cons_zero, List.set_cons_succ]))
                refine wpPlan_loud rfl (fun K hK => ?_)
                have sx : w7.cell? ⟨w.heap.size, 3, none⟩ = some (.slice (some ⟨bG, oG, none⟩) n g4) := HN7.out.ref.bB.cell 3
                have zx := HN7.out.ref.bB.frozen 3
                go_simp
                refine hK _ _ (fun h => absurd rfl h) ?_
                clear hK K
                clear hops
                refine wpPlan_nil ?_
                have HB7 := Lib.hid (HN7.out.set 3 _ _ HX7.out)
                clear sx zx q1 q3 dG HK HRG HRUG HX6 HC6 HC7 HX7 HN7
                generalize w7.setCell _ _ = w8 at *
                rw [HSF.out] at HB7
                have hfx := HFM.out
                have hm20 := H20.out
                go_wp2
                go_roundw
                case rel => first | exact ⟨f + 1, HFM.out, by go_num, _, _, s2.take1 a, Lib.hid ⟨HT1.out.1, HS2.out.2.1, HS2.out.2.2, HTN2.out, HB7.out⟩⟩ | ((repeat apply Exists.intro); exact ⟨⟨HFM.out, by go_num, _, _, s2.take1 a, Lib.hid ⟨HT1.out.1, HS2.out.2.1, HS2.out.2.2, HTN2.out, HB7.out⟩⟩, rfl⟩)
                case measure => have := HFM.out; simp [intOf]; omega
        · obtain rfl : f = m + 1 := by omega
          have hf1 : ¬ ((m + 1 : Nat) : Int) ≤ m := by omega
          have hf2 : ¬ (m : Int) + 1 ≤ m := by omega
          have HEQ : Hid (s2 = s1.takeAll a) := Lib.hid (by have := HTN.out; rw [Nat.sub_self] at this; exact this)
          clear hf hfm HTN
          go_wp2_with (first | (refine wpList_plain rfl (fun K hK => wp_loadT aggSkeen _ rfl w.heap.size [.slice k1 n k2, .slice t1 m t2, .slice f1 m f3, .slice g3 n g4] (by rfl) HB2.out.ref.bB rfl ?_); refine hK _ _ ?_; clear hK) | (refine wpList_plain rfl (fun K hK => wp_storeT aggSkeen _ _ rfl (w.heap.size + 1) [.slice k1 n k2, .slice t1 m t2, .slice f1 m f3, .slice g3 n g4] _ (by rfl) (by rfl) rfl HB2.out.ref.bR rfl rfl ?_); intro wz hBz hcz; have HB9 := Lib.hid (HB2.out.setR hBz hcz); clear hBz hcz; refine hK _ _ ?_; clear hK))
          (try simp only [Exit.inBlock, Exit.then]); refine bodyPost_ret (results_cell3 aggSkeen rfl _ _ _ _ (by rfl) HB9.out.ref.bR rfl) rfl ?_
          rw [HE.out, HDO.out.1, HDO.out.2, ← HEQ.out]
          exact ⟨_, rfl, HB9.out.ans⟩

end Go.Proofs.YtbindapfjghnaaaDoor
