/-
  The document's answers about the net of work and thanks: giving, stopping, stepping.
  Conditions: the answer's lists are read, and tell the program's net.
-/
import Derived.Test.YtbckjmbhipofaaaDoorCaR
namespace Go.Proofs.YtbckjmbhipofaaaDoor
open Go Go.RowKit

theorem CNet.is_in (s : CNet) (p : Int) : inB p 0 ((s.n : Int) - 1) = s.is p := rfl

/-- What the document's functions ask. -/
structure CGood (s : CNet) : Prop where
  sane : Sane s
  n5 : s.n ≤ 5
  par : ∀ p, p < s.n → -1 ≤ s.parent p
  s20 : s.sent ≤ 20

set_option maxHeartbeats 8000000 in
set_option maxRecDepth 100000 in
theorem give_ref (S : Nat → Prop) (w : World) (us : List Value) (s : CNet) (h : RdS S w us (cf s)) (hs : CGood s) (p q : Int) :
    Calls Tryd.prog 7 #[.agg us.toArray, .int .i64 p, .int .i64 q] w (CAns S w (s.give p q) (s.giveErr p q)) := by
  have h5 := hs.n5
  obtain ⟨pa, pc, oa, oc, wa, wc, rfl⟩ := cf_opn h
  have HU := Lib.hid h
  obtain ⟨n, HN⟩ : ∃ n, Hid (s.n = n) := ⟨_, Lib.hid rfl⟩
  obtain ⟨m, HM⟩ : ∃ m, Hid (setB s.works s.n = m) := ⟨_, Lib.hid rfl⟩
  obtain ⟨nn, HNN⟩ : ∃ nn, Hid (n * n = nn) := ⟨_, Lib.hid rfl⟩
  obtain ⟨st, HST⟩ : ∃ st, Hid (s.sent = st) := ⟨_, Lib.hid rfl⟩
  obtain ⟨cl, HCL⟩ : ∃ cl, Hid (s.calm = cl) := ⟨_, Lib.hid rfl⟩
  have H5 : Hid (n ≤ 5) := Lib.hid (by rw [← HN.out]; exact h5)
  have HM32 : Hid (m < 32) := Lib.hid (by rw [← HM.out]; exact Nat.lt_of_lt_of_le (setB_lt _ _) (Nat.pow_le_pow_right (n := 2) (by omega) h5))
  have HN25 : Hid (nn ≤ 25) := Lib.hid (by rw [← HNN.out]; exact Nat.mul_le_mul H5.out H5.out)
  rw [HM.out, HN.out, HNN.out, HST.out, HCL.out] at HU ⊢
  clear h h5
  have HS := Lib.hid hs
  have hwn : wrap64 ((n : Int) - 1) = (n : Int) - 1 := IntWalk.wrap64_in _ (by have := H5.out; omega)
  have BAD : Hid (∀ x (w' : World), s.giveErr p q = x → x ≠ 0 → Bx S w w' w.heap.size (w.heap.size + 1) [.int .i64 (n : Int), .int .i64 (m : Int), .slice pa n pc, .slice oa n oc, .slice wa nn wc, .int .i64 st, .bool cl] [.int .i64 (n : Int), .int .i64 (m : Int), .slice pa n pc, .slice oa n oc, .slice wa nn wc, .int .i64 st, .bool cl] (cf s) → CAns S w (s.give p q) (s.giveErr p q) (.returned (.tuple #[.agg #[.int .i64 (n : Int), .int .i64 (m : Int), .slice pa n pc, .slice oa n oc, .slice wa nn wc, .int .i64 st, .bool cl], .int .i64 x])) w') := Lib.hid fun x w' he hx hR => by
    have h1 : s.give p q = s := by unfold CNet.give; rw [if_neg (by rw [he]; exact hx)]
    rw [h1, he]
    exact ⟨_, rfl, hR.ans⟩
  have HIp : Hid (inB p 0 ((n : Int) - 1) = s.is p) := Lib.hid (by rw [← HN.out]; exact s.is_in p)
  have HIq : Hid (inB q 0 ((n : Int) - 1) = s.is q) := Lib.hid (by rw [← HN.out]; exact s.is_in q)
  cases hip : s.is p with
  | false =>
    have HE : Hid (s.giveErr p q = 1) := Lib.hid (by unfold CNet.giveErr; rw [if_pos (.inl hip)])
    rw [hip] at HIp
    clear hip
    go_enter Tryd.func7, Tryd.ntmps7
    go_wp2_with fail
    refine (ref6In_any _ _ _ _).mono ?_
    rintro e w2 ⟨rfl, rfl⟩
    rw [HIp.out]
    have HB := Lib.hid (Bx.start w [.int .i64 (n : Int), .int .i64 (m : Int), .slice pa n pc, .slice oa n oc, .slice wa nn wc, .int .i64 st, .bool cl] [.int .i64 0, .int .i64 0, .slice none 0 0, .slice none 0 0, .slice none 0 0, .int .i64 0, .bool false] (cf s) HU.out 31 31)
    generalize ((w.alloc _).alloc _) = w2 at *
    go_wp2_with (first | (refine wpList_plain rfl (fun K hK => wp_loadT aggCalm _ rfl w.heap.size [.int .i64 (n : Int), .int .i64 (m : Int), .slice pa n pc, .slice oa n oc, .slice wa nn wc, .int .i64 st, .bool cl] (by rfl) HB.out.ref.bB rfl ?_); refine hK _ _ ?_; clear hK) | (refine wpList_plain rfl (fun K hK => wp_storeT aggCalm _ _ rfl (w.heap.size + 1) [.int .i64 (n : Int), .int .i64 (m : Int), .slice pa n pc, .slice oa n oc, .slice wa nn wc, .int .i64 st, .bool cl] _ (by rfl) (by rfl) rfl HB.out.ref.bR rfl rfl ?_); intro wz hBz hcz; have HB3 := Lib.hid (HB.out.setR hBz hcz); clear hBz hcz; refine hK _ _ ?_; clear hK))
    (try simp only [Exit.inBlock, Exit.then]); refine bodyPost_ret (results_cell2 aggCalm rfl _ _ _ _ (by rfl) HB3.out.ref.bR rfl) rfl ?_
    exact BAD.out 1 _ HE.out (by omega) HB3.out
  | true =>
  cases hiq : s.is q with
  | false =>
    have HE : Hid (s.giveErr p q = 1) := Lib.hid (by unfold CNet.giveErr; rw [if_pos (.inr hiq)])
    rw [hip] at HIp
    rw [hiq] at HIq
    clear hip hiq
    go_enter Tryd.func7, Tryd.ntmps7
    go_wp2_with fail
    refine (ref6In_any _ _ _ _).mono ?_
    rintro e w2 ⟨rfl, rfl⟩
    rw [HIp.out]
    go_wp2_with fail
    refine (ref6In_any _ _ _ _).mono ?_
    rintro e w2 ⟨rfl, rfl⟩
    rw [HIq.out]
    have HB := Lib.hid (Bx.start w [.int .i64 (n : Int), .int .i64 (m : Int), .slice pa n pc, .slice oa n oc, .slice wa nn wc, .int .i64 st, .bool cl] [.int .i64 0, .int .i64 0, .slice none 0 0, .slice none 0 0, .slice none 0 0, .int .i64 0, .bool false] (cf s) HU.out 31 31)
    generalize ((w.alloc _).alloc _) = w2 at *
    go_wp2_with (first | (refine wpList_plain rfl (fun K hK => wp_loadT aggCalm _ rfl w.heap.size [.int .i64 (n : Int), .int .i64 (m : Int), .slice pa n pc, .slice oa n oc, .slice wa nn wc, .int .i64 st, .bool cl] (by rfl) HB.out.ref.bB rfl ?_); refine hK _ _ ?_; clear hK) | (refine wpList_plain rfl (fun K hK => wp_storeT aggCalm _ _ rfl (w.heap.size + 1) [.int .i64 (n : Int), .int .i64 (m : Int), .slice pa n pc, .slice oa n oc, .slice wa nn wc, .int .i64 st, .bool cl] _ (by rfl) (by rfl) rfl HB.out.ref.bR rfl rfl ?_); intro wz hBz hcz; have HB3 := Lib.hid (HB.out.setR hBz hcz); clear hBz hcz; refine hK _ _ ?_; clear hK))
    (try simp only [Exit.inBlock, Exit.then]); refine bodyPost_ret (results_cell2 aggCalm rfl _ _ _ _ (by rfl) HB3.out.ref.bR rfl) rfl ?_
    exact BAD.out 1 _ HE.out (by omega) HB3.out
  | true =>
  have HOK : Hid (¬ (s.is p = false ∨ s.is q = false)) := Lib.hid (by rw [hip, hiq]; simp)
  rw [hip] at HIp
  rw [hiq] at HIq
  obtain ⟨a, rfl, ha⟩ := (s.is_iff p).1 hip
  obtain ⟨b, rfl, hb⟩ := (s.is_iff q).1 hiq
  have HPS := Lib.hid ha
  have HQS := Lib.hid hb
  have HPN : Hid (a < n) := Lib.hid (by rw [← HN.out]; exact ha)
  have HQN : Hid (b < n) := Lib.hid (by rw [← HN.out]; exact hb)
  have han : (a : Int) < n := by have := HPN.out; omega
  have hbn : (b : Int) < n := by have := HQN.out; omega
  clear ha hb hip hiq
  by_cases hab : a = b
  · have hbe : ((a : Int) == (b : Int)) = true := by rw [hab]; simp
    have HE : Hid (s.giveErr a b = 6) := Lib.hid (by unfold CNet.giveErr; rw [if_neg HOK.out, if_pos (by rw [hab])])
    clear hab
    go_enter Tryd.func7, Tryd.ntmps7
    go_wp2_with fail
    refine (ref6In_any _ _ _ _).mono ?_
    rintro e w2 ⟨rfl, rfl⟩
    rw [HIp.out]
    go_wp2_with fail
    refine (ref6In_any _ _ _ _).mono ?_
    rintro e w2 ⟨rfl, rfl⟩
    rw [HIq.out]
    have HB := Lib.hid (Bx.start w [.int .i64 (n : Int), .int .i64 (m : Int), .slice pa n pc, .slice oa n oc, .slice wa nn wc, .int .i64 st, .bool cl] [.int .i64 0, .int .i64 0, .slice none 0 0, .slice none 0 0, .slice none 0 0, .int .i64 0, .bool false] (cf s) HU.out 31 31)
    generalize ((w.alloc _).alloc _) = w2 at *
    go_wp2_with (first | (refine wpList_plain rfl (fun K hK => wp_loadT aggCalm _ rfl w.heap.size [.int .i64 (n : Int), .int .i64 (m : Int), .slice pa n pc, .slice oa n oc, .slice wa nn wc, .int .i64 st, .bool cl] (by rfl) HB.out.ref.bB rfl ?_); refine hK _ _ ?_; clear hK) | (refine wpList_plain rfl (fun K hK => wp_storeT aggCalm _ _ rfl (w.heap.size + 1) [.int .i64 (n : Int), .int .i64 (m : Int), .slice pa n pc, .slice oa n oc, .slice wa nn wc, .int .i64 st, .bool cl] _ (by rfl) (by rfl) rfl HB.out.ref.bR rfl rfl ?_); intro wz hBz hcz; have HB3 := Lib.hid (HB.out.setR hBz hcz); clear hBz hcz; refine hK _ _ ?_; clear hK))
    (try simp only [Exit.inBlock, Exit.then]); refine bodyPost_ret (results_cell2 aggCalm rfl _ _ _ _ (by rfl) HB3.out.ref.bR rfl) rfl ?_
    exact BAD.out 6 _ HE.out (by omega) HB3.out
  have HAB : Hid (¬ (a : Int) = b) := Lib.hid (by omega)
  have hbe : ((a : Int) == (b : Int)) = false := by rw [beq_eq_false_iff_ne]; omega
  clear hab
  have HBIT := Lib.hid (fun wq => bit_any m a (by have := HM32.out; omega) (by have := HPN.out; have := H5.out; omega) wq)
  rw [show bitB m a = s.works a by rw [← HM.out]; exact bit_setB _ _ _ HPS.out] at HBIT
  cases hwk : s.works a with
  | false =>
    have HE : Hid (s.giveErr a b = 7) := Lib.hid (by unfold CNet.giveErr; rw [if_neg HOK.out, if_neg HAB.out, Int.toNat_natCast, if_pos hwk])
    rw [hwk] at HBIT
    clear hwk
    go_enter Tryd.func7, Tryd.ntmps7
    go_wp2_with fail
    refine (ref6In_any _ _ _ _).mono ?_
    rintro e w2 ⟨rfl, rfl⟩
    rw [HIp.out]
    go_wp2_with fail
    refine (ref6In_any _ _ _ _).mono ?_
    rintro e w2 ⟨rfl, rfl⟩
    rw [HIq.out]
    have HB := Lib.hid (Bx.start w [.int .i64 (n : Int), .int .i64 (m : Int), .slice pa n pc, .slice oa n oc, .slice wa nn wc, .int .i64 st, .bool cl] [.int .i64 0, .int .i64 0, .slice none 0 0, .slice none 0 0, .slice none 0 0, .int .i64 0, .bool false] (cf s) HU.out 31 31)
    generalize ((w.alloc _).alloc _) = w2 at *
    have q1 : w2.cell? ⟨w.heap.size, 1, none⟩ = some (.int .i64 (m : Int)) := HB.out.ref.bB.cell 1
    have q5 : w2.cell? ⟨w.heap.size, 5, none⟩ = some (.int .i64 st) := HB.out.ref.bB.cell 5
    go_wp2_with fail
    refine (HBIT.out w2).mono ?_
    rintro e w3 ⟨rfl, rfl⟩
    go_wp2_with (first | (refine wpList_plain rfl (fun K hK => wp_loadT aggCalm _ rfl w.heap.size [.int .i64 (n : Int), .int .i64 (m : Int), .slice pa n pc, .slice oa n oc, .slice wa nn wc, .int .i64 st, .bool cl] (by rfl) HB.out.ref.bB rfl ?_); refine hK _ _ ?_; clear hK) | (refine wpList_plain rfl (fun K hK => wp_storeT aggCalm _ _ rfl (w.heap.size + 1) [.int .i64 (n : Int), .int .i64 (m : Int), .slice pa n pc, .slice oa n oc, .slice wa nn wc, .int .i64 st, .bool cl] _ (by rfl) (by rfl) rfl HB.out.ref.bR rfl rfl ?_); intro wz hBz hcz; have HB3 := Lib.hid (HB.out.setR hBz hcz); clear hBz hcz; refine hK _ _ ?_; clear hK))
    (try simp only [Exit.inBlock, Exit.then]); refine bodyPost_ret (results_cell2 aggCalm rfl _ _ _ _ (by rfl) HB3.out.ref.bR rfl) rfl ?_
    exact BAD.out 7 _ HE.out (by omega) HB3.out
  | true =>
  have HWK : Hid (¬ s.works a = false) := Lib.hid (by rw [hwk]; simp)
  rw [hwk] at HBIT
  clear hwk
  have hs20 : st ≤ 20 := by rw [← HST.out]; exact HS.out.s20
  have hsm : -1000 ≤ st := by rw [← HST.out]; exact HS.out.sane.sent.1
  by_cases h20 : st = 20
  · have HE : Hid (s.giveErr a b = 4) := Lib.hid (by unfold CNet.giveErr; rw [if_neg HOK.out, if_neg HAB.out, Int.toNat_natCast, if_neg HWK.out, if_pos (by rw [HST.out]; exact h20)])
    have hst : (20 : Int) ≤ st := by omega
    clear h20 hs20
    go_enter Tryd.func7, Tryd.ntmps7
    go_wp2_with fail
    refine (ref6In_any _ _ _ _).mono ?_
    rintro e w2 ⟨rfl, rfl⟩
    rw [HIp.out]
    go_wp2_with fail
    refine (ref6In_any _ _ _ _).mono ?_
    rintro e w2 ⟨rfl, rfl⟩
    rw [HIq.out]
    have HB := Lib.hid (Bx.start w [.int .i64 (n : Int), .int .i64 (m : Int), .slice pa n pc, .slice oa n oc, .slice wa nn wc, .int .i64 st, .bool cl] [.int .i64 0, .int .i64 0, .slice none 0 0, .slice none 0 0, .slice none 0 0, .int .i64 0, .bool false] (cf s) HU.out 31 31)
    generalize ((w.alloc _).alloc _) = w2 at *
    have q1 : w2.cell? ⟨w.heap.size, 1, none⟩ = some (.int .i64 (m : Int)) := HB.out.ref.bB.cell 1
    have q5 : w2.cell? ⟨w.heap.size, 5, none⟩ = some (.int .i64 st) := HB.out.ref.bB.cell 5
    go_wp2_with fail
    refine (HBIT.out w2).mono ?_
    rintro e w3 ⟨rfl, rfl⟩
    go_wp2_with (first | (refine wpList_plain rfl (fun K hK => wp_loadT aggCalm _ rfl w.heap.size [.int .i64 (n : Int), .int .i64 (m : Int), .slice pa n pc, .slice oa n oc, .slice wa nn wc, .int .i64 st, .bool cl] (by rfl) HB.out.ref.bB rfl ?_); refine hK _ _ ?_; clear hK) | (refine wpList_plain rfl (fun K hK => wp_storeT aggCalm _ _ rfl (w.heap.size + 1) [.int .i64 (n : Int), .int .i64 (m : Int), .slice pa n pc, .slice oa n oc, .slice wa nn wc, .int .i64 st, .bool cl] _ (by rfl) (by rfl) rfl HB.out.ref.bR rfl rfl ?_); intro wz hBz hcz; have HB3 := Lib.hid (HB.out.setR hBz hcz); clear hBz hcz; refine hK _ _ ?_; clear hK))
    (try simp only [Exit.inBlock, Exit.then]); refine bodyPost_ret (results_cell2 aggCalm rfl _ _ _ _ (by rfl) HB3.out.ref.bR rfl) rfl ?_
    exact BAD.out 4 _ HE.out (by omega) HB3.out
  have HE : Hid (s.giveErr a b = 0) := Lib.hid (by unfold CNet.giveErr; rw [if_neg HOK.out, if_neg HAB.out, Int.toNat_natCast, if_neg HWK.out, if_neg (by rw [HST.out]; exact h20)])
  have HDO : Hid (s.give a b = s.give0 a b) := Lib.hid (by unfold CNet.give; rw [if_pos HE.out, Int.toNat_natCast, Int.toNat_natCast])
  have hst : ¬ (20 : Int) ≤ st := by omega
  obtain ⟨ow, HOW⟩ : ∃ ow, Hid (s.owed a = ow) := ⟨_, Lib.hid rfl⟩
  have how := HS.out.sane.owed a HPS.out
  rw [HOW.out] at how
  obtain ⟨how1, how2⟩ := how
  have hwo1 : IntKind.i64.wrap (ow + 1) = ow + 1 := IntWalk.i64_in _ (by omega)
  clear h20
  go_enter Tryd.func7, Tryd.ntmps7
  go_wp2_with fail
  refine (ref6In_any _ _ _ _).mono ?_
  rintro e w2 ⟨rfl, rfl⟩
  rw [HIp.out]
  go_wp2_with fail
  refine (ref6In_any _ _ _ _).mono ?_
  rintro e w2 ⟨rfl, rfl⟩
  rw [HIq.out]
  have HB := Lib.hid (Bx.start w [.int .i64 (n : Int), .int .i64 (m : Int), .slice pa n pc, .slice oa n oc, .slice wa nn wc, .int .i64 st, .bool cl] [.int .i64 0, .int .i64 0, .slice none 0 0, .slice none 0 0, .slice none 0 0, .int .i64 0, .bool false] (cf s) HU.out 31 31)
  generalize ((w.alloc _).alloc _) = w2 at *
  have q1 : w2.cell? ⟨w.heap.size, 1, none⟩ = some (.int .i64 (m : Int)) := HB.out.ref.bB.cell 1
  have q5 : w2.cell? ⟨w.heap.size, 5, none⟩ = some (.int .i64 st) := HB.out.ref.bB.cell 5
  go_wp2_with fail
  refine (HBIT.out w2).mono ?_
  rintro e w3 ⟨rfl, rfl⟩
  have z5 := HB.out.ref.bB.frozen 5
  have HB5 := Lib.hid (HB.out.set 5 (.int .i64 (st + 1)) (.i (st + 1)) rfl)
  go_wp2_with fail
  clear q1 q5 z5 HB hst
  generalize w2.setCell _ _ = w5 at *
  have q3 : w5.cell? ⟨w.heap.size, 3, none⟩ = some (.slice oa n oc) := HB5.out.ref.bB.cell 3
  have HRO : Hid (Rd (In S w w.heap.size (w.heap.size + 1)) w5 (.slice oa n oc) (line s.n s.owed)) := Lib.hid (HB5.out.at (f := .l (line s.n s.owed)) 3 rfl rfl)
  obtain ⟨bO, oO, cO, eO, -, hcO⟩ := HRO.out.form (by rw [line_len, HN.out]; have := HPN.out; omega)
  rw [line_len, HN.out] at eO
  simp only [Value.slice.injEq] at eO
  obtain ⟨rfl, -, rfl⟩ := eO
  have dO := hcO a (by rw [line_len]; exact HPS.out)
  rw [line_at _ HPS.out, HOW.out] at dO
  clear hcO
  refine wp_region_plan (Chg NoF w5) 11 [(0,true),(1,true),(2,true),(3,true),(4,true),(5,true),(6,true),(7,true),(8,true),(9,false),(10,true),(11,false)] mixed (by kernel_rfl) (Chg.refl _ _).drew ?_
  simp only [planOps, List.map_cons, List.map_nil, List.getElem?_cons_zero, List.getElem?_cons_succ, Option.getD_some]
  generalize hops : List.toArray _ = ops
  iterate 9 (refine wpPlan_quiet (v := ?_) rfl (fun _ _ _ h => h) (by intro w1 hS; have s0 := hS.cell_some q3 (fun h => h); have s1 := hS.cell_some dO (fun h => h); clear hS; go_simp; with_reducible rfl) ?_; (simp only [Act.put, List.setIfInBounds_toArray, List.set_cons_zero, List.set_cons_succ]))
  refine wpPlan_loud rfl (fun K hK => ?_)
  go_simp
  have HD6 := Lib.hid (HB5.out.no ((Chg.refl NoF w5).drew))
  refine (set_ref (In S w w.heap.size (w.heap.size + 1)) _ (line s.n s.owed) a (ow + 1) _ (HRO.out.keep ((Chg.refl NoF w5).drew) (fun _ _ h => h)) (by rw [line_len]; exact HPS.out) (by rw [line_len, HN.out]; have := H5.out; omega)).mono ?_
  rintro e w6 ⟨v6, rfl, hr6, hc6⟩
  obtain ⟨a6, c6, e6⟩ := hr6.val
  rw [List.length_set, line_len, HN.out] at e6
  subst e6
  have HC6 : Hid (Chg NoF w5 w6) := Lib.hid (((Chg.refl NoF w5).drew).trans hc6)
  have HX6 := Lib.hid (HD6.out.told (f := .l _) hr6)
  have HN6 := Lib.hid (HB5.out.no HC6.out)
  refine hK _ _ (fun _ => HC6.out) ?_
  clear hK K hr6 hc6 HD6
  (try simp only [Act.put, List.setIfInBounds_toArray, List.set_cons_zero, List.set_cons_succ])
  (refine wpPlan_quiet (v := ?_) rfl (fun _ _ _ h => h) (by intro w1 hS; clear hS; go_simp; with_reducible rfl) ?_; (simp only [Act.put, List.setIfInBounds_toArray, List.set_cons_zero, List.set_cons_succ]))
  refine wpPlan_loud rfl (fun K hK => ?_)
  have sx : w6.cell? ⟨w.heap.size, 3, none⟩ = some (.slice (some ⟨bO, oO, none⟩) n oc) := HN6.out.ref.bB.cell 3
  have zx := HN6.out.ref.bB.frozen 3
  go_simp
  refine hK _ _ (fun h => absurd rfl h) ?_
  clear hK K
  clear hops
  refine wpPlan_nil ?_
  have HB6 := Lib.hid (HN6.out.set 3 _ _ HX6.out)
  clear sx zx q3 dO HRO HB5 HC6 HX6 HN6
  generalize w6.setCell _ _ = w7 at *
  have HG6 : Hid (Bx S w w7 w.heap.size (w.heap.size + 1) [.int .i64 (n : Int), .int .i64 (m : Int), .slice pa n pc, .slice a6 n c6, .slice wa nn wc, .int .i64 (st + 1), .bool cl] [.int .i64 0, .int .i64 0, .slice none 0 0, .slice none 0 0, .slice none 0 0, .int .i64 0, .bool false] (cf { s with sent := s.sent + 1, owed := put1 s.owed a (s.owed a + 1) })) := Lib.hid (by
    have h1 := HB6.out
    have h2 := cf_owed { s with sent := s.sent + 1 } a (s.owed a + 1)
    rw [← HST.out, ← HOW.out] at h1
    rw [← HST.out]
    exact Eq.mp (congrArg (fun fs => Bx S w _ w.heap.size (w.heap.size + 1) _ _ fs) h2) h1)
  clear HB6
  go_wp2_with (refine wpList_plain rfl (fun K hK => wp_loadT aggCalm _ rfl w.heap.size [.int .i64 (n : Int), .int .i64 (m : Int), .slice pa n pc, .slice a6 n c6, .slice wa nn wc, .int .i64 (st + 1), .bool cl] (by rfl) HG6.out.ref.bB rfl ?_); refine hK _ _ ?_; clear hK)
  refine (sendCalm_ref (In S w w.heap.size (w.heap.size + 1)) w7 _ { s with sent := s.sent + 1, owed := put1 s.owed a (s.owed a + 1) } HG6.out.fld (by have := H5.out; have := HN.out; show s.n ≤ 5; omega) a b HPS.out HQS.out 1 (by have := HS.out.sane.len a b HPS.out HQS.out; show (s.ways a b).length < 5000; omega)).mono ?_
  rintro e w8 ⟨v8, rfl, us8, rfl, hr8, hc8⟩
  have HR8 := Lib.hid (HG6.out.toldS hr8)
  have HB8 := Lib.hid (HG6.out.no hc8)
  clear hr8 hc8 
  go_wp2_with (refine wpList_plain rfl (fun K hK => wp_storeT aggCalm _ _ rfl (w.heap.size + 1) us8 _ (by rfl) (by rfl) HR8.out.len HB8.out.ref.bR rfl HR8.out.one ?_); intro w9 hB9 hc9; have HB9 := Lib.hid hB9; have HC9 : Hid (Chg NoF w w9) := Lib.hid (HB8.out.ref.chg.trans2 hc9 fun i _ hi => .inr (by have hi : i = w.heap.size + 1 := hi; omega)); have HR9 : Hid (RdS (More S w) w9 us8 (cf (s.give0 a b))) := Lib.hid ((HR8.out.keep hc9 (fun b hb e => (HB8.out.notB b hb).2 e)).mono (fun b _ hb => hb.elim (fun h => .inl h.1) (fun h => .inr h.1))); clear hB9 hc9; refine hK _ _ ?_; clear hK)
  (try simp only [Exit.inBlock, Exit.then]); refine bodyPost_ret (results_cell2 aggCalm rfl _ _ _ _ (by rfl) HB9.out HR8.out.len) rfl ?_
  exact ⟨_, by rw [HE.out]; rfl, us8, rfl, by rw [HDO.out]; exact HR9.out, HC9.out⟩

set_option maxHeartbeats 8000000 in
set_option maxRecDepth 100000 in
theorem stop_ref (S : Nat → Prop) (w : World) (us : List Value) (s : CNet) (h : RdS S w us (cf s)) (hs : CGood s) (p : Int) :
    Calls Tryd.prog 9 #[.agg us.toArray, .int .i64 p] w (CAns S w (s.stop p) (s.stopErr p)) := by
  have h5 := hs.n5
  obtain ⟨pa, pc, oa, oc, wa, wc, rfl⟩ := cf_opn h
  have HU := Lib.hid h
  obtain ⟨n, HN⟩ : ∃ n, Hid (s.n = n) := ⟨_, Lib.hid rfl⟩
  obtain ⟨m, HM⟩ : ∃ m, Hid (setB s.works s.n = m) := ⟨_, Lib.hid rfl⟩
  obtain ⟨nn, HNN⟩ : ∃ nn, Hid (n * n = nn) := ⟨_, Lib.hid rfl⟩
  obtain ⟨st, HST⟩ : ∃ st, Hid (s.sent = st) := ⟨_, Lib.hid rfl⟩
  obtain ⟨cl, HCL⟩ : ∃ cl, Hid (s.calm = cl) := ⟨_, Lib.hid rfl⟩
  have H5 : Hid (n ≤ 5) := Lib.hid (by rw [← HN.out]; exact h5)
  have HM32 : Hid (m < 32) := Lib.hid (by rw [← HM.out]; exact Nat.lt_of_lt_of_le (setB_lt _ _) (Nat.pow_le_pow_right (n := 2) (by omega) h5))
  have HN25 : Hid (nn ≤ 25) := Lib.hid (by rw [← HNN.out]; exact Nat.mul_le_mul H5.out H5.out)
  rw [HM.out, HN.out, HNN.out, HST.out, HCL.out] at HU ⊢
  clear h h5
  have HS := Lib.hid hs
  have hwn : wrap64 ((n : Int) - 1) = (n : Int) - 1 := IntWalk.wrap64_in _ (by have := H5.out; omega)
  have BAD : Hid (∀ x (w' : World), s.stopErr p = x → x ≠ 0 → Bx S w w' w.heap.size (w.heap.size + 1) [.int .i64 (n : Int), .int .i64 (m : Int), .slice pa n pc, .slice oa n oc, .slice wa nn wc, .int .i64 st, .bool cl] [.int .i64 (n : Int), .int .i64 (m : Int), .slice pa n pc, .slice oa n oc, .slice wa nn wc, .int .i64 st, .bool cl] (cf s) → CAns S w (s.stop p) (s.stopErr p) (.returned (.tuple #[.agg #[.int .i64 (n : Int), .int .i64 (m : Int), .slice pa n pc, .slice oa n oc, .slice wa nn wc, .int .i64 st, .bool cl], .int .i64 x])) w') := Lib.hid fun x w' he hx hR => by
    have h1 : s.stop p = s := by unfold CNet.stop; rw [if_neg (by rw [he]; exact hx)]
    rw [h1, he]
    exact ⟨_, rfl, hR.ans⟩
  have HIp : Hid (inB p 0 ((n : Int) - 1) = s.is p) := Lib.hid (by rw [← HN.out]; exact s.is_in p)
  cases hip : s.is p with
  | false =>
    have HE : Hid (s.stopErr p = 1) := Lib.hid (by unfold CNet.stopErr; rw [if_pos hip])
    rw [hip] at HIp
    clear hip
    go_enter Tryd.func9, Tryd.ntmps9
    go_wp2_with fail
    refine (ref6In_any _ _ _ _).mono ?_
    rintro e w2 ⟨rfl, rfl⟩
    rw [HIp.out]
    have HB := Lib.hid (Bx.start w [.int .i64 (n : Int), .int .i64 (m : Int), .slice pa n pc, .slice oa n oc, .slice wa nn wc, .int .i64 st, .bool cl] [.int .i64 0, .int .i64 0, .slice none 0 0, .slice none 0 0, .slice none 0 0, .int .i64 0, .bool false] (cf s) HU.out 31 31)
    generalize ((w.alloc _).alloc _) = w2 at *
    go_wp2_with (first | (refine wpList_plain rfl (fun K hK => wp_loadT aggCalm _ rfl w.heap.size [.int .i64 (n : Int), .int .i64 (m : Int), .slice pa n pc, .slice oa n oc, .slice wa nn wc, .int .i64 st, .bool cl] (by rfl) HB.out.ref.bB rfl ?_); refine hK _ _ ?_; clear hK) | (refine wpList_plain rfl (fun K hK => wp_storeT aggCalm _ _ rfl (w.heap.size + 1) [.int .i64 (n : Int), .int .i64 (m : Int), .slice pa n pc, .slice oa n oc, .slice wa nn wc, .int .i64 st, .bool cl] _ (by rfl) (by rfl) rfl HB.out.ref.bR rfl rfl ?_); intro wz hBz hcz; have HB3 := Lib.hid (HB.out.setR hBz hcz); clear hBz hcz; refine hK _ _ ?_; clear hK))
    (try simp only [Exit.inBlock, Exit.then]); refine bodyPost_ret (results_cell2 aggCalm rfl _ _ _ _ (by rfl) HB3.out.ref.bR rfl) rfl ?_
    exact BAD.out 1 _ HE.out (by omega) HB3.out
  | true =>
  have HOK : Hid (¬ s.is p = false) := Lib.hid (by rw [hip]; simp)
  rw [hip] at HIp
  obtain ⟨a, rfl, ha⟩ := (s.is_iff p).1 hip
  have HPS := Lib.hid ha
  have HPN : Hid (a < n) := Lib.hid (by rw [← HN.out]; exact ha)
  have han : (a : Int) < n := by have := HPN.out; omega
  clear ha hip
  have HBIT := Lib.hid (fun wq => bit_any m a (by have := HM32.out; omega) (by have := HPN.out; have := H5.out; omega) wq)
  rw [show bitB m a = s.works a by rw [← HM.out]; exact bit_setB _ _ _ HPS.out] at HBIT
  cases hwk : s.works a with
  | false =>
    have HE : Hid (s.stopErr a = 7) := Lib.hid (by unfold CNet.stopErr; rw [if_neg HOK.out, Int.toNat_natCast, if_pos hwk])
    rw [hwk] at HBIT
    clear hwk
    go_enter Tryd.func9, Tryd.ntmps9
    go_wp2_with fail
    refine (ref6In_any _ _ _ _).mono ?_
    rintro e w2 ⟨rfl, rfl⟩
    rw [HIp.out]
    have HB := Lib.hid (Bx.start w [.int .i64 (n : Int), .int .i64 (m : Int), .slice pa n pc, .slice oa n oc, .slice wa nn wc, .int .i64 st, .bool cl] [.int .i64 0, .int .i64 0, .slice none 0 0, .slice none 0 0, .slice none 0 0, .int .i64 0, .bool false] (cf s) HU.out 31 31)
    generalize ((w.alloc _).alloc _) = w2 at *
    have q1 : w2.cell? ⟨w.heap.size, 1, none⟩ = some (.int .i64 (m : Int)) := HB.out.ref.bB.cell 1
    go_wp2_with fail
    refine (HBIT.out w2).mono ?_
    rintro e w3 ⟨rfl, rfl⟩
    go_wp2_with (first | (refine wpList_plain rfl (fun K hK => wp_loadT aggCalm _ rfl w.heap.size [.int .i64 (n : Int), .int .i64 (m : Int), .slice pa n pc, .slice oa n oc, .slice wa nn wc, .int .i64 st, .bool cl] (by rfl) HB.out.ref.bB rfl ?_); refine hK _ _ ?_; clear hK) | (refine wpList_plain rfl (fun K hK => wp_storeT aggCalm _ _ rfl (w.heap.size + 1) [.int .i64 (n : Int), .int .i64 (m : Int), .slice pa n pc, .slice oa n oc, .slice wa nn wc, .int .i64 st, .bool cl] _ (by rfl) (by rfl) rfl HB.out.ref.bR rfl rfl ?_); intro wz hBz hcz; have HB3 := Lib.hid (HB.out.setR hBz hcz); clear hBz hcz; refine hK _ _ ?_; clear hK))
    (try simp only [Exit.inBlock, Exit.then]); refine bodyPost_ret (results_cell2 aggCalm rfl _ _ _ _ (by rfl) HB3.out.ref.bR rfl) rfl ?_
    exact BAD.out 7 _ HE.out (by omega) HB3.out
  | true =>
  have HWK := Lib.hid hwk
  have HE : Hid (s.stopErr a = 0) := Lib.hid (by unfold CNet.stopErr; rw [if_neg HOK.out, Int.toNat_natCast, if_neg (by rw [hwk]; simp)])
  have HDO : Hid (s.stop a = s.stop0 a) := Lib.hid (by unfold CNet.stop; rw [if_pos HE.out, Int.toNat_natCast])
  rw [hwk] at HBIT
  clear hwk
  have HPW := Lib.hid (fun wq => pow2_any a wq (by have := HPN.out; have := H5.out; omega))
  obtain ⟨pw, HPWE⟩ : ∃ pw : Nat, Hid (2 ^ a = pw) := ⟨_, Lib.hid rfl⟩
  rw [HPWE.out] at HPW
  have hpw : pw ≤ 32 := by rw [← HPWE.out]; exact (show 2 ^ a ≤ 2 ^ 5 from Nat.pow_le_pow_right (by omega) (by have := HPN.out; have := H5.out; omega))
  have hm32 := HM32.out
  have hws : IntKind.i64.wrap ((m : Int) - (pw : Int)) = (m : Int) - (pw : Int) := IntWalk.i64_in _ (by omega)
  have HCF := Lib.hid (cf_stop s HPS.out HWK.out)
  rw [HM.out, HPWE.out] at HCF
  go_enter Tryd.func9, Tryd.ntmps9
  go_wp2_with fail
  refine (ref6In_any _ _ _ _).mono ?_
  rintro e w2 ⟨rfl, rfl⟩
  rw [HIp.out]
  have HB := Lib.hid (Bx.start w [.int .i64 (n : Int), .int .i64 (m : Int), .slice pa n pc, .slice oa n oc, .slice wa nn wc, .int .i64 st, .bool cl] [.int .i64 0, .int .i64 0, .slice none 0 0, .slice none 0 0, .slice none 0 0, .int .i64 0, .bool false] (cf s) HU.out 31 31)
  generalize ((w.alloc _).alloc _) = w2 at *
  have q1 : w2.cell? ⟨w.heap.size, 1, none⟩ = some (.int .i64 (m : Int)) := HB.out.ref.bB.cell 1
  go_wp2_with fail
  refine (HBIT.out w2).mono ?_
  rintro e w3 ⟨rfl, rfl⟩
  go_wp2_with fail
  refine wp_region_plan (Chg NoF w2) 6 [(0,true),(1,true),(2,true),(3,false),(4,true),(5,true),(6,false)] mixed (by kernel_rfl) (Chg.refl _ _).drew ?_
  simp only [planOps, List.map_cons, List.map_nil, List.getElem?_cons_zero, List.getElem?_cons_succ, Option.getD_some]
  generalize hops : List.toArray _ = ops
  iterate 3 (refine wpPlan_quiet (v := ?_) rfl (fun _ _ _ h => h) (by intro w1 hS; have s0 := hS.cell_some q1 (fun h => h); clear hS; go_simp; with_reducible rfl) ?_; (simp only [Act.put, List.setIfInBounds_toArray, List.set_cons_zero, List.set_cons_succ]))
  refine wpPlan_loud rfl (fun K hK => ?_)
  go_simp
  refine (HPW.out w2.drew).mono ?_
  rintro e w3 ⟨rfl, rfl⟩
  refine hK _ _ (fun _ => (Chg.refl NoF w2).drew) ?_
  clear hK K
  (try simp only [Act.put, List.setIfInBounds_toArray, List.set_cons_zero, List.set_cons_succ])
  iterate 2 (refine wpPlan_quiet (v := ?_) rfl (fun _ _ _ h => h) (by intro w1 hS; clear hS; go_simp; with_reducible rfl) ?_; (simp only [Act.put, List.setIfInBounds_toArray, List.set_cons_zero, List.set_cons_succ]))
  refine wpPlan_loud rfl (fun K hK => ?_)
  have HND := Lib.hid (HB.out.no ((Chg.refl NoF w2).drew))
  have sx : w2.drew.cell? ⟨w.heap.size, 1, none⟩ = some (.int .i64 (m : Int)) := HND.out.ref.bB.cell 1
  have zx := HND.out.ref.bB.frozen 1
  go_simp
  refine hK _ _ (fun h => absurd rfl h) ?_
  clear hK K
  clear hops
  refine wpPlan_nil ?_
  have HB5 : Hid (Bx S w ((w2.setCell ⟨w.heap.size, 1, none⟩ (.int .i64 ((m : Int) - (pw : Int)))).drew) w.heap.size (w.heap.size + 1) [.int .i64 (n : Int), .int .i64 ((m : Int) - (pw : Int)), .slice pa n pc, .slice oa n oc, .slice wa nn wc, .int .i64 st, .bool cl] [.int .i64 0, .int .i64 0, .slice none 0 0, .slice none 0 0, .slice none 0 0, .int .i64 0, .bool false] (cf { s with works := put1 s.works a false })) := Lib.hid (by
    have h1 := HND.out.set 1 (.int .i64 ((m : Int) - (pw : Int))) (.i ((m : Int) - (pw : Int))) rfl
    rw [HCF.out] at h1
    exact h1)
  clear sx zx q1 HB HND
  generalize (w2.setCell _ _).drew = w5 at *
  go_wp2_with (refine wpList_plain rfl (fun K hK => wp_loadT aggCalm _ rfl w.heap.size [.int .i64 (n : Int), .int .i64 ((m : Int) - (pw : Int)), .slice pa n pc, .slice oa n oc, .slice wa nn wc, .int .i64 st, .bool cl] (by rfl) HB5.out.ref.bB rfl ?_); refine hK _ _ ?_; clear hK)
  refine (rest_ref (In S w w.heap.size (w.heap.size + 1)) w5 _ { s with works := put1 s.works a false } HB5.out.fld (by have := H5.out; have := HN.out; show s.n ≤ 5; omega) a HPS.out ⟨HS.out.par a HPS.out, HS.out.sane.par a HPS.out⟩ (by have := HS.out.sane.owed a HPS.out; show -5000 ≤ s.owed a ∧ s.owed a ≤ 5000; omega) (fun q hq => by have := HS.out.sane.len a q HPS.out hq; show (s.ways a q).length < 5000; omega)).mono ?_
  rintro e w8 ⟨v8, rfl, us8, rfl, hr8, hc8⟩
  have HR8 := Lib.hid (HB5.out.toldS hr8)
  have HB8 := Lib.hid (HB5.out.no hc8)
  clear hr8 hc8 
  go_wp2_with (refine wpList_plain rfl (fun K hK => wp_storeT aggCalm _ _ rfl (w.heap.size + 1) us8 _ (by rfl) (by rfl) HR8.out.len HB8.out.ref.bR rfl HR8.out.one ?_); intro w9 hB9 hc9; have HB9 := Lib.hid hB9; have HC9 : Hid (Chg NoF w w9) := Lib.hid (HB8.out.ref.chg.trans2 hc9 fun i _ hi => .inr (by have hi : i = w.heap.size + 1 := hi; omega)); have HR9 : Hid (RdS (More S w) w9 us8 (cf (s.stop0 a))) := Lib.hid ((HR8.out.keep hc9 (fun b hb e => (HB8.out.notB b hb).2 e)).mono (fun b _ hb => hb.elim (fun h => .inl h.1) (fun h => .inr h.1))); clear hB9 hc9; refine hK _ _ ?_; clear hK)
  (try simp only [Exit.inBlock, Exit.then]); refine bodyPost_ret (results_cell2 aggCalm rfl _ _ _ _ (by rfl) HB9.out HR8.out.len) rfl ?_
  exact ⟨_, by rw [HE.out]; rfl, us8, rfl, by rw [HDO.out]; exact HR9.out, HC9.out⟩

end Go.Proofs.YtbckjmbhipofaaaDoor
