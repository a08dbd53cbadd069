/-
  The document's answers about the line over two wires: an answer taken, and all kinds together.
  Conditions: the answer's lists are read, and tell the program's line.
-/
import Derived.Test.YtgpjjbfmckcjgaaDoorBtR
namespace Go.Proofs.YtgpjjbfmckcjgaaDoor
open Go Go.RowKit

set_option maxHeartbeats 8000000 in
set_option maxRecDepth 100000 in
theorem hap4 (S : Nat → Prop) (w : World) (us : List Value) (s : BNet) (h : RdS S w us (lf s)) (hs : BInv s) :
    Calls Tryd.prog 18 #[.agg us.toArray, .int .i64 4] w (LAns S w (s.act 4) (s.err 4)) := by
  obtain ⟨va, vc, ga, gc, fa, fc, ba, bc, rfl⟩ := lf_opn h
  have HU := Lib.hid h
  have HS := Lib.hid hs
  obtain ⟨vn, HVN⟩ : ∃ n, Hid (s.vals.length = n) := ⟨_, Lib.hid rfl⟩
  obtain ⟨sn, HSN⟩ : ∃ n, Hid (s.sent = n) := ⟨_, Lib.hid rfl⟩
  obtain ⟨gn, HGN⟩ : ∃ n, Hid (s.got.length = n) := ⟨_, Lib.hid rfl⟩
  obtain ⟨fn, HFN⟩ : ∃ n, Hid (s.forth.length = n) := ⟨_, Lib.hid rfl⟩
  obtain ⟨bn, HBN⟩ : ∃ n, Hid (s.back.length = n) := ⟨_, Lib.hid rfl⟩
  have hsv := hs.sle
  have hv20 := hs.v20
  have hgv := hs.gle
  have hf8 := hs.f8
  have hb8 := hs.b8
  rw [HVN.out, HSN.out, HGN.out, HFN.out, HBN.out] at HU ⊢
  rw [HVN.out, HSN.out] at hsv
  rw [HVN.out] at hv20
  rw [HVN.out, HGN.out] at hgv
  rw [HFN.out] at hf8
  rw [HBN.out] at hb8
  clear h hs
  have BAD : Hid (∀ x (w' : World), s.err 4 = x → x ≠ 0 → Bx S w w' w.heap.size (w.heap.size + 1) [.slice va vn vc, .int .i64 (sn : Int), .slice ga gn gc, .slice fa fn fc, .slice ba bn bc] [.slice va vn vc, .int .i64 (sn : Int), .slice ga gn gc, .slice fa fn fc, .slice ba bn bc] (lf s) → LAns S w (s.act 4) (s.err 4) (.returned (.tuple #[.agg #[.slice va vn vc, .int .i64 (sn : Int), .slice ga gn gc, .slice fa fn fc, .slice ba bn bc], .int .i64 x])) w') := Lib.hid fun x w' he hx hR => by
    have h1 : s.act 4 = s := by unfold BNet.act; rw [if_neg (by rw [he]; exact hx)]
    rw [h1, he]
    exact ⟨_, rfl, hR.ans⟩
  have HIN : Hid (inB (4 : Int) 0 6 = true) := Lib.hid (by decide)
  have HIN2 : Hid (inB (4 : Int) 1 3 = false) := Lib.hid (by decide)
  by_cases h5 : bn = 0
  · have e5 : s.back.length = 0 := by rw [HBN.out]; exact h5
    have HE : Hid (s.err 4 = 5) := Lib.hid (by simp [BNet.err, e5])
    have hb5 : ((bn : Int) == 0) = true := by rw [beq_iff_eq]; omega
    clear h5 e5
    go_enter Tryd.func18, Tryd.ntmps18
    go_wp2_with fail
    refine (ref6In_any _ _ _ _).mono ?_
    rintro e w2 ⟨rfl, rfl⟩
    rw [HIN.out]
    have HB := Lib.hid (Bx.start w [.slice va vn vc, .int .i64 (sn : Int), .slice ga gn gc, .slice fa fn fc, .slice ba bn bc] [.slice none 0 0, .int .i64 0, .slice none 0 0, .slice none 0 0, .slice none 0 0] (lf s) HU.out 44 44)
    generalize ((w.alloc _).alloc _) = w2 at *
    have q0 : w2.cell? ⟨w.heap.size, 0, none⟩ = some (.slice va vn vc) := HB.out.ref.bB.cell 0
    have q1 : w2.cell? ⟨w.heap.size, 1, none⟩ = some (.int .i64 sn) := HB.out.ref.bB.cell 1
    have q2 : w2.cell? ⟨w.heap.size, 2, none⟩ = some (.slice ga gn gc) := HB.out.ref.bB.cell 2
    have q3 : w2.cell? ⟨w.heap.size, 3, none⟩ = some (.slice fa fn fc) := HB.out.ref.bB.cell 3
    have q4 : w2.cell? ⟨w.heap.size, 4, none⟩ = some (.slice ba bn bc) := HB.out.ref.bB.cell 4
    go_wp2_with fail
    refine (ref6In_any _ _ _ _).mono ?_
    rintro e w3 ⟨rfl, rfl⟩
    rw [HIN2.out]
    go_wp2_with (first | (refine wpList_plain rfl (fun K hK => wp_loadT aggLine _ rfl w.heap.size [.slice va vn vc, .int .i64 (sn : Int), .slice ga gn gc, .slice fa fn fc, .slice ba bn bc] (by rfl) HB.out.ref.bB rfl ?_); refine hK _ _ ?_; clear hK) | (refine wpList_plain rfl (fun K hK => wp_storeT aggLine _ _ rfl (w.heap.size + 1) [.slice va vn vc, .int .i64 (sn : Int), .slice ga gn gc, .slice fa fn fc, .slice ba bn bc] _ (by rfl) (by rfl) rfl HB.out.ref.bR rfl rfl ?_); intro wz hBz hcz; have HB3 := Lib.hid (HB.out.setR hBz hcz); clear hBz hcz; refine hK _ _ ?_; clear hK))
    (try simp only [Exit.inBlock, Exit.then]); refine bodyPost_ret (results_cell2 aggLine rfl _ _ _ _ (by rfl) HB3.out.ref.bR rfl) rfl ?_
    exact BAD.out 5 _ HE.out (by omega) HB3.out
  have n5 : ¬ s.back.length = 0 := by rw [HBN.out]; exact h5
  have hb5 : ((bn : Int) == 0) = false := by rw [beq_eq_false_iff_ne]; omega
  have HE : Hid (s.err 4 = 0) := Lib.hid (by simp [BNet.err, n5])
  have HDO : Hid (s.act 4 = s.pass 4) := Lib.hid (by unfold BNet.act; rw [if_pos HE.out])
  obtain ⟨pb, bt, HF⟩ : ∃ f ft, Hid (s.back = f :: ft) := by
    cases hcs : s.back with
    | nil => exact absurd (by rw [hcs]; rfl) n5
    | cons f ft => exact ⟨f, ft, Lib.hid rfl⟩
  obtain ⟨tl, HTL⟩ : ∃ tl, Hid (bt.map (fun (b : Nat) => (b : Int)) = tl) := ⟨_, Lib.hid rfl⟩
  obtain ⟨hd, HHD⟩ : ∃ hd : Int, Hid ((pb : Int) = hd) := ⟨_, Lib.hid rfl⟩
  have HFL : Hid (s.bL = hd :: tl) := Lib.hid (by unfold BNet.bL; rw [HF.out, List.map_cons, HTL.out, HHD.out])
  obtain ⟨m, HM⟩ : ∃ m, Hid (bn = m + 1) := ⟨bn - 1, Lib.hid (by omega)⟩
  have HML : Hid (tl.length = m) := Lib.hid (by rw [← HTL.out, List.length_map]; have := HBN.out; rw [HF.out, List.length_cons] at this; have := HM.out; omega)
  obtain rfl := HM.out
  clear hb5
  have hb5 : ((((m : Int) + 1)) == 0) = false := by rw [beq_eq_false_iff_ne]; omega
  obtain ⟨t, HT⟩ : ∃ t : Nat, Hid (sn % 2 = t) := ⟨_, Lib.hid rfl⟩
  have hmod : Int.tmod (sn : Int) 2 = (t : Int) := by rw [← HT.out]; rfl
  have HPB : Hid ((s.pass 4).bL = tl) := Lib.hid (by simp [BNet.pass, BNet.bL, HF.out, HTL.out])
  have HBB : Hid (s.bbit = pb) := Lib.hid (by unfold BNet.bbit; rw [HF.out]; rfl)
  have HSV : Hid (s.pass 4 = { s with sent := if s.bbit = s.sent % 2 ∧ s.sent < s.vals.length then s.sent + 1 else s.sent, back := s.back.drop 1 }) := Lib.hid (by simp [BNet.pass])
  clear n5 h5
  by_cases hq1 : pb = t
  · by_cases hq2 : sn < vn
    · have hbq : (hd == (t : Int)) = true := by rw [beq_iff_eq, ← HHD.out, hq1]
      have hq3 : (sn : Int) < vn := by omega
      have HP : Hid (((lf s).set 1 (.i ((sn : Int) + 1))).set 4 (.l tl) = lf (s.pass 4)) := Lib.hid (by
        have e : (s.pass 4).sent = sn + 1 := by rw [HSV.out]; show (if _ then _ else _) = _; rw [if_pos (by rw [HBB.out, HSN.out, HVN.out, HT.out]; exact ⟨hq1, hq2⟩), HSN.out]
        show _ = [_, Fd.i ((s.pass 4).sent : Int), _, _, Fd.l (s.pass 4).bL]
        rw [e, HPB.out]; rfl)
      clear hq1 hq2
      go_enter Tryd.func18, Tryd.ntmps18
      go_wp2_with fail
      refine (ref6In_any _ _ _ _).mono ?_
      rintro e w2 ⟨rfl, rfl⟩
      rw [HIN.out]
      have HB := Lib.hid (Bx.start w [.slice va vn vc, .int .i64 (sn : Int), .slice ga gn gc, .slice fa fn fc, .slice ba (m + 1) bc] [.slice none 0 0, .int .i64 0, .slice none 0 0, .slice none 0 0, .slice none 0 0] (lf s) HU.out 44 44)
      generalize ((w.alloc _).alloc _) = w2 at *
      have HT0 : Hid (Rd (In S w w.heap.size (w.heap.size + 1)) w2 (.slice ba (m + 1) bc) (hd :: tl)) := Lib.hid (by rw [← HFL.out]; exact HB.out.at 4 rfl rfl)
      obtain ⟨bB, oB, cB, ev, -, hcap, hcH⟩ := HT0.out.formC (by simp)
      rw [show (hd :: tl).length = m + 1 by rw [List.length_cons, HML.out]] at ev hcap
      simp only [Value.slice.injEq] at ev
      obtain ⟨rfl, -, rfl⟩ := ev
      have dH := hcH 0 (by simp)
      rw [show (hd :: tl).getD 0 0 = hd from rfl, Nat.add_zero] at dH
      clear hcH
      have q0 : w2.cell? ⟨w.heap.size, 0, none⟩ = some (.slice va vn vc) := HB.out.ref.bB.cell 0
      have q1 : w2.cell? ⟨w.heap.size, 1, none⟩ = some (.int .i64 sn) := HB.out.ref.bB.cell 1
      have q2 : w2.cell? ⟨w.heap.size, 2, none⟩ = some (.slice ga gn gc) := HB.out.ref.bB.cell 2
      have q3 : w2.cell? ⟨w.heap.size, 3, none⟩ = some (.slice fa fn fc) := HB.out.ref.bB.cell 3
      have q4 : w2.cell? ⟨w.heap.size, 4, none⟩ = some (.slice (some ⟨bB, oB, none⟩) (m + 1) bc) := HB.out.ref.bB.cell 4
      go_wp2_with fail
      refine (ref6In_any _ _ _ _).mono ?_
      rintro e w3 ⟨rfl, rfl⟩
      rw [HIN2.out]
      go_wp2_with fail
      go_quiet (fail)
      have HBD := Lib.hid (HB.out.no ((Chg.refl NoF w2).drewN nq))
      clear q0 q1 q2 q3 q4 dH
      generalize w2.drewN nq = w4 at *
      have q0 : w4.cell? ⟨w.heap.size, 0, none⟩ = some (.slice va vn vc) := HBD.out.ref.bB.cell 0
      have q1 : w4.cell? ⟨w.heap.size, 1, none⟩ = some (.int .i64 sn) := HBD.out.ref.bB.cell 1
      have q2 : w4.cell? ⟨w.heap.size, 2, none⟩ = some (.slice ga gn gc) := HBD.out.ref.bB.cell 2
      have q3 : w4.cell? ⟨w.heap.size, 3, none⟩ = some (.slice fa fn fc) := HBD.out.ref.bB.cell 3
      have q4 : w4.cell? ⟨w.heap.size, 4, none⟩ = some (.slice (some ⟨bB, oB, none⟩) (m + 1) bc) := HBD.out.ref.bB.cell 4
      have z1 := HBD.out.ref.bB.frozen 1
      have HB5 := Lib.hid (HBD.out.set 1 (.int .i64 ((sn : Int) + 1)) (.i ((sn : Int) + 1)) rfl)
      have g4 : (w4.setCell ⟨w.heap.size, 1, none⟩ (.int .i64 ((sn : Int) + 1))).cell? ⟨w.heap.size, 4, none⟩ = some (.slice (some ⟨bB, oB, none⟩) (m + 1) bc) := HB5.out.ref.bB.cell 4
      have zf : (w4.setCell ⟨w.heap.size, 1, none⟩ (.int .i64 ((sn : Int) + 1))).frozen? ⟨w.heap.size, 4, none⟩ = false := HB5.out.ref.bB.frozen 4
      obtain ⟨off, hoff, hoff2⟩ := tail_off2 bB oB bc m hcap
      have HT1 : Hid (Rd (In S w w.heap.size (w.heap.size + 1)) (w4.setCell ⟨w.heap.size, 1, none⟩ (.int .i64 ((sn : Int) + 1))) (.slice (some ⟨bB, oB, none⟩) (m + 1) bc) (hd :: tl)) := Lib.hid (by rw [← HFL.out]; exact HB5.out.at 4 rfl rfl)
      have HTA : Hid (RdF (In S w w.heap.size (w.heap.size + 1)) (w4.setCell ⟨w.heap.size, 1, none⟩ (.int .i64 ((sn : Int) + 1))) (.slice (some ⟨bB, off, none⟩) m (bc - 1)) (.l tl)) := Lib.hid (Rd.tail2 HT1.out HML.out hoff2)
      have hcap2 : (m : Int) + 1 ≤ bc := by omega
      clear hoff2
      have HB6 := Lib.hid (HB5.out.set 4 _ _ HTA.out)
      go_wp2_with (first | (refine wpList_plain rfl (fun K hK => wp_loadT aggLine _ rfl w.heap.size [.slice va vn vc, .int .i64 ((sn : Int) + 1), .slice ga gn gc, .slice fa fn fc, .slice (some ⟨bB, off, none⟩) m (bc - 1)] (by rfl) HB6.out.ref.bB rfl ?_); refine hK _ _ ?_; clear hK) | (refine wpList_plain rfl (fun K hK => wp_storeT aggLine _ _ rfl (w.heap.size + 1) [.slice va vn vc, .int .i64 ((sn : Int) + 1), .slice ga gn gc, .slice fa fn fc, .slice (some ⟨bB, off, none⟩) m (bc - 1)] _ (by rfl) (by rfl) rfl HB6.out.ref.bR rfl rfl ?_); intro wz hBz hcz; have HBZ := Lib.hid (HB6.out.setR hBz hcz); clear hBz hcz; refine hK _ _ ?_; clear hK))
      (try simp only [Exit.inBlock, Exit.then]); refine bodyPost_ret (results_cell2 aggLine rfl _ _ _ _ (by rfl) HBZ.out.ref.bR rfl) rfl ?_
      rw [HE.out, HDO.out]
      have hz := HBZ.out.ans
      rw [HP.out] at hz
      exact ⟨_, rfl, hz⟩
    · have hbq : (hd == (t : Int)) = true := by rw [beq_iff_eq, ← HHD.out, hq1]
      have hq3 : ¬ (sn : Int) < vn := by omega
      have HP : Hid ((lf s).set 4 (.l tl) = lf (s.pass 4)) := Lib.hid (by
        have e : (s.pass 4).sent = s.sent := by rw [HSV.out]; show (if _ then _ else _) = _; rw [if_neg (by rw [HBB.out, HSN.out, HVN.out, HT.out]; omega)]
        show _ = [_, Fd.i ((s.pass 4).sent : Int), _, _, Fd.l (s.pass 4).bL]
        rw [e, HPB.out]; rfl)
      clear hq1 hq2
      go_enter Tryd.func18, Tryd.ntmps18
      go_wp2_with fail
      refine (ref6In_any _ _ _ _).mono ?_
      rintro e w2 ⟨rfl, rfl⟩
      rw [HIN.out]
      have HB := Lib.hid (Bx.start w [.slice va vn vc, .int .i64 (sn : Int), .slice ga gn gc, .slice fa fn fc, .slice ba (m + 1) bc] [.slice none 0 0, .int .i64 0, .slice none 0 0, .slice none 0 0, .slice none 0 0] (lf s) HU.out 44 44)
      generalize ((w.alloc _).alloc _) = w2 at *
      have HT0 : Hid (Rd (In S w w.heap.size (w.heap.size + 1)) w2 (.slice ba (m + 1) bc) (hd :: tl)) := Lib.hid (by rw [← HFL.out]; exact HB.out.at 4 rfl rfl)
      obtain ⟨bB, oB, cB, ev, -, hcap, hcH⟩ := HT0.out.formC (by simp)
      rw [show (hd :: tl).length = m + 1 by rw [List.length_cons, HML.out]] at ev hcap
      simp only [Value.slice.injEq] at ev
      obtain ⟨rfl, -, rfl⟩ := ev
      have dH := hcH 0 (by simp)
      rw [show (hd :: tl).getD 0 0 = hd from rfl, Nat.add_zero] at dH
      clear hcH
      have q0 : w2.cell? ⟨w.heap.size, 0, none⟩ = some (.slice va vn vc) := HB.out.ref.bB.cell 0
      have q1 : w2.cell? ⟨w.heap.size, 1, none⟩ = some (.int .i64 sn) := HB.out.ref.bB.cell 1
      have q2 : w2.cell? ⟨w.heap.size, 2, none⟩ = some (.slice ga gn gc) := HB.out.ref.bB.cell 2
      have q3 : w2.cell? ⟨w.heap.size, 3, none⟩ = some (.slice fa fn fc) := HB.out.ref.bB.cell 3
      have q4 : w2.cell? ⟨w.heap.size, 4, none⟩ = some (.slice (some ⟨bB, oB, none⟩) (m + 1) bc) := HB.out.ref.bB.cell 4
      go_wp2_with fail
      refine (ref6In_any _ _ _ _).mono ?_
      rintro e w3 ⟨rfl, rfl⟩
      rw [HIN2.out]
      go_wp2_with fail
      go_quiet (fail)
      have HBD := Lib.hid (HB.out.no ((Chg.refl NoF w2).drewN nq))
      clear q0 q1 q2 q3 q4 dH
      generalize w2.drewN nq = w4 at *
      have q0 : w4.cell? ⟨w.heap.size, 0, none⟩ = some (.slice va vn vc) := HBD.out.ref.bB.cell 0
      have q1 : w4.cell? ⟨w.heap.size, 1, none⟩ = some (.int .i64 sn) := HBD.out.ref.bB.cell 1
      have q2 : w4.cell? ⟨w.heap.size, 2, none⟩ = some (.slice ga gn gc) := HBD.out.ref.bB.cell 2
      have q3 : w4.cell? ⟨w.heap.size, 3, none⟩ = some (.slice fa fn fc) := HBD.out.ref.bB.cell 3
      have q4 : w4.cell? ⟨w.heap.size, 4, none⟩ = some (.slice (some ⟨bB, oB, none⟩) (m + 1) bc) := HBD.out.ref.bB.cell 4
      have zf : w4.frozen? ⟨w.heap.size, 4, none⟩ = false := HBD.out.ref.bB.frozen 4
      obtain ⟨off, hoff, hoff2⟩ := tail_off2 bB oB bc m hcap
      have HT1 : Hid (Rd (In S w w.heap.size (w.heap.size + 1)) w4 (.slice (some ⟨bB, oB, none⟩) (m + 1) bc) (hd :: tl)) := Lib.hid (by rw [← HFL.out]; exact HBD.out.at 4 rfl rfl)
      have HTA : Hid (RdF (In S w w.heap.size (w.heap.size + 1)) w4 (.slice (some ⟨bB, off, none⟩) m (bc - 1)) (.l tl)) := Lib.hid (Rd.tail2 HT1.out HML.out hoff2)
      have hcap2 : (m : Int) + 1 ≤ bc := by omega
      clear hoff2
      have HB6 := Lib.hid (HBD.out.set 4 _ _ HTA.out)
      go_wp2_with (first | (refine wpList_plain rfl (fun K hK => wp_loadT aggLine _ rfl w.heap.size [.slice va vn vc, .int .i64 (sn : Int), .slice ga gn gc, .slice fa fn fc, .slice (some ⟨bB, off, none⟩) m (bc - 1)] (by rfl) HB6.out.ref.bB rfl ?_); refine hK _ _ ?_; clear hK) | (refine wpList_plain rfl (fun K hK => wp_storeT aggLine _ _ rfl (w.heap.size + 1) [.slice va vn vc, .int .i64 (sn : Int), .slice ga gn gc, .slice fa fn fc, .slice (some ⟨bB, off, none⟩) m (bc - 1)] _ (by rfl) (by rfl) rfl HB6.out.ref.bR rfl rfl ?_); intro wz hBz hcz; have HBZ := Lib.hid (HB6.out.setR hBz hcz); clear hBz hcz; refine hK _ _ ?_; clear hK))
      (try simp only [Exit.inBlock, Exit.then]); refine bodyPost_ret (results_cell2 aggLine rfl _ _ _ _ (by rfl) HBZ.out.ref.bR rfl) rfl ?_
      rw [HE.out, HDO.out]
      have hz := HBZ.out.ans
      rw [HP.out] at hz
      exact ⟨_, rfl, hz⟩
  · have hbq : (hd == (t : Int)) = false := by rw [beq_eq_false_iff_ne, ← HHD.out]; omega
    have HP : Hid ((lf s).set 4 (.l tl) = lf (s.pass 4)) := Lib.hid (by
      have e : (s.pass 4).sent = s.sent := by rw [HSV.out]; show (if _ then _ else _) = _; rw [if_neg (by rw [HBB.out, HSN.out, HVN.out, HT.out]; omega)]
      show _ = [_, Fd.i ((s.pass 4).sent : Int), _, _, Fd.l (s.pass 4).bL]
      rw [e, HPB.out]; rfl)
    clear hq1 
    go_enter Tryd.func18, Tryd.ntmps18
    go_wp2_with fail
    refine (ref6In_any _ _ _ _).mono ?_
    rintro e w2 ⟨rfl, rfl⟩
    rw [HIN.out]
    have HB := Lib.hid (Bx.start w [.slice va vn vc, .int .i64 (sn : Int), .slice ga gn gc, .slice fa fn fc, .slice ba (m + 1) bc] [.slice none 0 0, .int .i64 0, .slice none 0 0, .slice none 0 0, .slice none 0 0] (lf s) HU.out 44 44)
    generalize ((w.alloc _).alloc _) = w2 at *
    have HT0 : Hid (Rd (In S w w.heap.size (w.heap.size + 1)) w2 (.slice ba (m + 1) bc) (hd :: tl)) := Lib.hid (by rw [← HFL.out]; exact HB.out.at 4 rfl rfl)
    obtain ⟨bB, oB, cB, ev, -, hcap, hcH⟩ := HT0.out.formC (by simp)
    rw [show (hd :: tl).length = m + 1 by rw [List.length_cons, HML.out]] at ev hcap
    simp only [Value.slice.injEq] at ev
    obtain ⟨rfl, -, rfl⟩ := ev
    have dH := hcH 0 (by simp)
    rw [show (hd :: tl).getD 0 0 = hd from rfl, Nat.add_zero] at dH
    clear hcH
    have q0 : w2.cell? ⟨w.heap.size, 0, none⟩ = some (.slice va vn vc) := HB.out.ref.bB.cell 0
    have q1 : w2.cell? ⟨w.heap.size, 1, none⟩ = some (.int .i64 sn) := HB.out.ref.bB.cell 1
    have q2 : w2.cell? ⟨w.heap.size, 2, none⟩ = some (.slice ga gn gc) := HB.out.ref.bB.cell 2
    have q3 : w2.cell? ⟨w.heap.size, 3, none⟩ = some (.slice fa fn fc) := HB.out.ref.bB.cell 3
    have q4 : w2.cell? ⟨w.heap.size, 4, none⟩ = some (.slice (some ⟨bB, oB, none⟩) (m + 1) bc) := HB.out.ref.bB.cell 4
    go_wp2_with fail
    refine (ref6In_any _ _ _ _).mono ?_
    rintro e w3 ⟨rfl, rfl⟩
    rw [HIN2.out]
    go_wp2_with fail
    go_quiet (fail)
    have HBD := Lib.hid (HB.out.no ((Chg.refl NoF w2).drewN nq))
    clear q0 q1 q2 q3 q4 dH
    generalize w2.drewN nq = w4 at *
    have q0 : w4.cell? ⟨w.heap.size, 0, none⟩ = some (.slice va vn vc) := HBD.out.ref.bB.cell 0
    have q1 : w4.cell? ⟨w.heap.size, 1, none⟩ = some (.int .i64 sn) := HBD.out.ref.bB.cell 1
    have q2 : w4.cell? ⟨w.heap.size, 2, none⟩ = some (.slice ga gn gc) := HBD.out.ref.bB.cell 2
    have q3 : w4.cell? ⟨w.heap.size, 3, none⟩ = some (.slice fa fn fc) := HBD.out.ref.bB.cell 3
    have q4 : w4.cell? ⟨w.heap.size, 4, none⟩ = some (.slice (some ⟨bB, oB, none⟩) (m + 1) bc) := HBD.out.ref.bB.cell 4
    have zf : w4.frozen? ⟨w.heap.size, 4, none⟩ = false := HBD.out.ref.bB.frozen 4
    obtain ⟨off, hoff, hoff2⟩ := tail_off2 bB oB bc m hcap
    have HT1 : Hid (Rd (In S w w.heap.size (w.heap.size + 1)) w4 (.slice (some ⟨bB, oB, none⟩) (m + 1) bc) (hd :: tl)) := Lib.hid (by rw [← HFL.out]; exact HBD.out.at 4 rfl rfl)
    have HTA : Hid (RdF (In S w w.heap.size (w.heap.size + 1)) w4 (.slice (some ⟨bB, off, none⟩) m (bc - 1)) (.l tl)) := Lib.hid (Rd.tail2 HT1.out HML.out hoff2)
    have hcap2 : (m : Int) + 1 ≤ bc := by omega
    clear hoff2
    have HB6 := Lib.hid (HBD.out.set 4 _ _ HTA.out)
    go_wp2_with (first | (refine wpList_plain rfl (fun K hK => wp_loadT aggLine _ rfl w.heap.size [.slice va vn vc, .int .i64 (sn : Int), .slice ga gn gc, .slice fa fn fc, .slice (some ⟨bB, off, none⟩) m (bc - 1)] (by rfl) HB6.out.ref.bB rfl ?_); refine hK _ _ ?_; clear hK) | (refine wpList_plain rfl (fun K hK => wp_storeT aggLine _ _ rfl (w.heap.size + 1) [.slice va vn vc, .int .i64 (sn : Int), .slice ga gn gc, .slice fa fn fc, .slice (some ⟨bB, off, none⟩) m (bc - 1)] _ (by rfl) (by rfl) rfl HB6.out.ref.bR rfl rfl ?_); intro wz hBz hcz; have HBZ := Lib.hid (HB6.out.setR hBz hcz); clear hBz hcz; refine hK _ _ ?_; clear hK))
    (try simp only [Exit.inBlock, Exit.then]); refine bodyPost_ret (results_cell2 aggLine rfl _ _ _ _ (by rfl) HBZ.out.ref.bR rfl) rfl ?_
    rw [HE.out, HDO.out]
    have hz := HBZ.out.ans
    rw [HP.out] at hz
    exact ⟨_, rfl, hz⟩

set_option maxHeartbeats 8000000 in
set_option maxRecDepth 100000 in
theorem hapBad (S : Nat → Prop) (w : World) (us : List Value) (s : BNet) (h : RdS S w us (lf s)) (hs : BInv s) (k : Int) (hk : k < 0 ∨ 6 < k) :
    Calls Tryd.prog 18 #[.agg us.toArray, .int .i64 k] w (LAns S w (s.act k) (s.err k)) := by
  obtain ⟨va, vc, ga, gc, fa, fc, ba, bc, rfl⟩ := lf_opn h
  have HU := Lib.hid h
  have HS := Lib.hid hs
  obtain ⟨vn, HVN⟩ : ∃ n, Hid (s.vals.length = n) := ⟨_, Lib.hid rfl⟩
  obtain ⟨sn, HSN⟩ : ∃ n, Hid (s.sent = n) := ⟨_, Lib.hid rfl⟩
  obtain ⟨gn, HGN⟩ : ∃ n, Hid (s.got.length = n) := ⟨_, Lib.hid rfl⟩
  obtain ⟨fn, HFN⟩ : ∃ n, Hid (s.forth.length = n) := ⟨_, Lib.hid rfl⟩
  obtain ⟨bn, HBN⟩ : ∃ n, Hid (s.back.length = n) := ⟨_, Lib.hid rfl⟩
  have hsv := hs.sle
  have hv20 := hs.v20
  have hgv := hs.gle
  have hf8 := hs.f8
  have hb8 := hs.b8
  rw [HVN.out, HSN.out, HGN.out, HFN.out, HBN.out] at HU ⊢
  rw [HVN.out, HSN.out] at hsv
  rw [HVN.out] at hv20
  rw [HVN.out, HGN.out] at hgv
  rw [HFN.out] at hf8
  rw [HBN.out] at hb8
  clear h hs
  have BAD : Hid (∀ x (w' : World), s.err k = x → x ≠ 0 → Bx S w w' w.heap.size (w.heap.size + 1) [.slice va vn vc, .int .i64 (sn : Int), .slice ga gn gc, .slice fa fn fc, .slice ba bn bc] [.slice va vn vc, .int .i64 (sn : Int), .slice ga gn gc, .slice fa fn fc, .slice ba bn bc] (lf s) → LAns S w (s.act k) (s.err k) (.returned (.tuple #[.agg #[.slice va vn vc, .int .i64 (sn : Int), .slice ga gn gc, .slice fa fn fc, .slice ba bn bc], .int .i64 x])) w') := Lib.hid fun x w' he hx hR => by
    have h1 : s.act k = s := by unfold BNet.act; rw [if_neg (by rw [he]; exact hx)]
    rw [h1, he]
    exact ⟨_, rfl, hR.ans⟩
  have HIN : Hid (inB k 0 6 = false) := Lib.hid (by unfold inB; simp; omega)
  have HE : Hid (s.err k = 1) := Lib.hid (by unfold BNet.err; rw [if_pos hk])
  clear hk
  go_enter Tryd.func18, Tryd.ntmps18
  go_wp2_with fail
  refine (ref6In_any _ _ _ _).mono ?_
  rintro e w2 ⟨rfl, rfl⟩
  rw [HIN.out]
  have HB := Lib.hid (Bx.start w [.slice va vn vc, .int .i64 (sn : Int), .slice ga gn gc, .slice fa fn fc, .slice ba bn bc] [.slice none 0 0, .int .i64 0, .slice none 0 0, .slice none 0 0, .slice none 0 0] (lf s) HU.out 44 44)
  generalize ((w.alloc _).alloc _) = w2 at *
  go_wp2_with (first | (refine wpList_plain rfl (fun K hK => wp_loadT aggLine _ rfl w.heap.size [.slice va vn vc, .int .i64 (sn : Int), .slice ga gn gc, .slice fa fn fc, .slice ba bn bc] (by rfl) HB.out.ref.bB rfl ?_); refine hK _ _ ?_; clear hK) | (refine wpList_plain rfl (fun K hK => wp_storeT aggLine _ _ rfl (w.heap.size + 1) [.slice va vn vc, .int .i64 (sn : Int), .slice ga gn gc, .slice fa fn fc, .slice ba bn bc] _ (by rfl) (by rfl) rfl HB.out.ref.bR rfl rfl ?_); intro wz hBz hcz; have HB3 := Lib.hid (HB.out.setR hBz hcz); clear hBz hcz; refine hK _ _ ?_; clear hK))
  (try simp only [Exit.inBlock, Exit.then]); refine bodyPost_ret (results_cell2 aggLine rfl _ _ _ _ (by rfl) HB3.out.ref.bR rfl) rfl ?_
  exact BAD.out 1 _ HE.out (by omega) HB3.out

theorem happens_ref (S : Nat → Prop) (w : World) (us : List Value) (s : BNet) (h : RdS S w us (lf s)) (hs : BInv s) (k : Int) :
    Calls Tryd.prog 18 #[.agg us.toArray, .int .i64 k] w (LAns S w (s.act k) (s.err k)) := by
  by_cases hk : k < 0 ∨ 6 < k
  · exact hapBad S w us s h hs k hk
  rcases (by omega : k = 0 ∨ k = 1 ∨ k = 2 ∨ k = 3 ∨ k = 4 ∨ k = 5 ∨ k = 6) with rfl | rfl | rfl | rfl | rfl | rfl | rfl
  · exact hap0 S w us s h hs
  · exact hap1 S w us s h hs
  · exact hap2 S w us s h hs
  · exact hap3 S w us s h hs
  · exact hap4 S w us s h hs
  · exact hap5 S w us s h hs
  · exact hap6 S w us s h hs

end Go.Proofs.YtgpjjbfmckcjgaaDoor
