/-
  The document's answers about the lock whose token goes from one to the next: leaving, a message that comes.
  Conditions: the answer's lists are read, and tell the program's net.
-/
import Derived.Test.YthblnljjhbdejaaDoorToR
namespace Go.Proofs.YthblnljjhbdejaaDoor
open Go Go.RowKit

theorem tpop_len (s : TNet) (a b p q : Nat) : ((s.pop a b).ways p q).length ≤ (s.ways p q).length := by
  show (put2 s.ways a b (s.ways a b).tail p q).length ≤ _
  by_cases e : p = a ∧ q = b
  · obtain ⟨rfl, rfl⟩ := e; rw [put2_self, List.length_tail]; omega
  · rw [put2_ne _ _ (by omega)]; exact Nat.le_refl _

set_option maxHeartbeats 8000000 in
set_option maxRecDepth 100000 in
theorem leave_ref (S : Nat → Prop) (w : World) (us : List Value) (s : TNet) (h : RdS S w us (tf s)) (hs : TGood s) (p : Int) :
    Calls Tryd.prog 9 #[.agg us.toArray, .int .i64 p] w (TAns S w (s.leave p) (s.leaveErr p)) := by
  have h4 : s.n ≤ 4 := hs.sane.n4
  obtain ⟨sa, sc, ha, hc, va, vc, qa, qc, wa, wc, rfl⟩ := tf_opn h
  have HU := Lib.hid h
  obtain ⟨n, HN⟩ : ∃ n, Hid (s.n = n) := ⟨_, Lib.hid rfl⟩
  obtain ⟨nn, HNN⟩ : ∃ nn, Hid (n * n = nn) := ⟨_, Lib.hid rfl⟩
  obtain ⟨ho, HHO⟩ : ∃ zz, Hid (s.holder = zz) := ⟨_, Lib.hid rfl⟩
  obtain ⟨tg, HTG⟩ : ∃ zz, Hid (s.targetOf = zz) := ⟨_, Lib.hid rfl⟩
  obtain ⟨qn, HQL⟩ : ∃ zz, Hid (s.queue.length = zz) := ⟨_, Lib.hid rfl⟩
  have H5 : Hid (n ≤ 4) := Lib.hid (by rw [← HN.out]; exact h4)
  have HN25 : Hid (nn ≤ 16) := Lib.hid (by rw [← HNN.out]; exact Nat.mul_le_mul H5.out H5.out)
  rw [HN.out, HNN.out, HHO.out, HTG.out, HQL.out] at HU ⊢
  have HS := Lib.hid hs
  have hwn : wrap64 ((n : Int) - 1) = (n : Int) - 1 := IntWalk.wrap64_in _ (by have := H5.out; omega)
  clear h h4 hs
  have BAD : Hid (∀ x (w' : World), s.leaveErr p = x → x ≠ 0 → Bx S w w' w.heap.size (w.heap.size + 1) [.int .i64 (n : Int), .slice sa n sc, .slice ha n hc, .int .i64 ho, .int .i64 tg, .slice va n vc, .slice qa qn qc, .slice wa nn wc] [.int .i64 (n : Int), .slice sa n sc, .slice ha n hc, .int .i64 ho, .int .i64 tg, .slice va n vc, .slice qa qn qc, .slice wa nn wc] (tf s) → TAns S w (s.leave p) (s.leaveErr p) (.returned (.tuple #[.agg #[.int .i64 (n : Int), .slice sa n sc, .slice ha n hc, .int .i64 ho, .int .i64 tg, .slice va n vc, .slice qa qn qc, .slice wa nn wc], .int .i64 x])) w') := Lib.hid fun x w' he hx hR => by
    have h1 : s.leave p = s := by unfold TNet.leave; rw [if_neg (by rw [he]; exact hx)]
    rw [h1, he]
    exact ⟨_, rfl, hR.ans⟩
  have HIp : Hid (inB p 0 ((n : Int) - 1) = s.is p) := Lib.hid (by rw [← HN.out]; exact s.is_in p)
  cases hip : s.is p with
  | false =>
    have HE : Hid (s.leaveErr p = 1) := Lib.hid (by unfold TNet.leaveErr; rw [if_pos hip])
    rw [hip] at HIp
    clear hip
    go_enter Tryd.func9, Tryd.ntmps9
    go_wp2_with fail
    refine (ref6In_any _ _ _ _).mono ?_
    rintro e w2 ⟨rfl, rfl⟩
    rw [HIp.out]
    have HB := Lib.hid (Bx.start w [.int .i64 (n : Int), .slice sa n sc, .slice ha n hc, .int .i64 ho, .int .i64 tg, .slice va n vc, .slice qa qn qc, .slice wa nn wc] [.int .i64 0, .slice none 0 0, .slice none 0 0, .int .i64 0, .int .i64 0, .slice none 0 0, .slice none 0 0, .slice none 0 0] (tf s) HU.out 31 31)
    generalize ((w.alloc _).alloc _) = w2 at *
    go_wp2_with (first | (refine wpList_plain rfl (fun K hK => wp_loadT aggToken _ rfl w.heap.size [.int .i64 (n : Int), .slice sa n sc, .slice ha n hc, .int .i64 ho, .int .i64 tg, .slice va n vc, .slice qa qn qc, .slice wa nn wc] (by rfl) HB.out.ref.bB rfl ?_); refine hK _ _ ?_; clear hK) | (refine wpList_plain rfl (fun K hK => wp_storeT aggToken _ _ rfl (w.heap.size + 1) [.int .i64 (n : Int), .slice sa n sc, .slice ha n hc, .int .i64 ho, .int .i64 tg, .slice va n vc, .slice qa qn qc, .slice wa nn wc] _ (by rfl) (by rfl) rfl HB.out.ref.bR rfl rfl ?_); intro wz hBz hcz; have HBZ := Lib.hid (HB.out.setR hBz hcz); clear hBz hcz; refine hK _ _ ?_; clear hK))
    (try simp only [Exit.inBlock, Exit.then]); refine bodyPost_ret (results_cell2 aggToken rfl _ _ _ _ (by rfl) HBZ.out.ref.bR rfl) rfl ?_
    exact BAD.out 1 _ HE.out (by omega) HBZ.out
  | true =>
  have HOK : Hid (¬ s.is p = false) := Lib.hid (by rw [hip]; simp)
  rw [hip] at HIp
  obtain ⟨a, rfl, haa⟩ := (s.is_iff p).1 hip
  have HPS := Lib.hid haa
  have HPN : Hid (a < n) := Lib.hid (by rw [← HN.out]; exact haa)
  have han : (a : Int) < n := by have := HPN.out; omega
  clear haa hip
  obtain ⟨sv, HSV⟩ : ∃ zz, Hid (s.stOf a = zz) := ⟨_, Lib.hid rfl⟩
  by_cases hs0 : sv = 2
  case neg =>
    have HE : Hid (s.leaveErr a = 7) := Lib.hid (by unfold TNet.leaveErr; rw [if_neg HOK.out, Int.toNat_natCast, if_pos]; cases hx : s.inn a with | false => rfl | true => exact absurd (by rw [← HSV.out]; exact stOf_two.2 hx) hs0)
    have hsb : (sv != 2) = true := by rw [bne_iff_ne]; exact hs0
    clear hs0
    go_enter Tryd.func9, Tryd.ntmps9
    go_wp2_with fail
    refine (ref6In_any _ _ _ _).mono ?_
    rintro e w2 ⟨rfl, rfl⟩
    rw [HIp.out]
    have HB := Lib.hid (Bx.start w [.int .i64 (n : Int), .slice sa n sc, .slice ha n hc, .int .i64 ho, .int .i64 tg, .slice va n vc, .slice qa qn qc, .slice wa nn wc] [.int .i64 0, .slice none 0 0, .slice none 0 0, .int .i64 0, .int .i64 0, .slice none 0 0, .slice none 0 0, .slice none 0 0] (tf s) HU.out 31 31)
    generalize ((w.alloc _).alloc _) = w2 at *
    have q1 : w2.cell? ⟨w.heap.size, 1, none⟩ = some (.slice sa n sc) := HB.out.ref.bB.cell 1
    have HRS : Hid (Rd (In S w w.heap.size (w.heap.size + 1)) w2 (.slice sa n sc) (line s.n s.stOf)) := Lib.hid (HB.out.at (f := .l (line s.n s.stOf)) 1 rfl rfl)
    obtain ⟨bS, oS, cS, eS, -, hcS⟩ := HRS.out.form (by rw [line_len, HN.out]; have := HPN.out; omega)
    rw [line_len, HN.out] at eS
    simp only [Value.slice.injEq] at eS
    obtain ⟨rfl, -, rfl⟩ := eS
    have dS := hcS a (by rw [line_len]; exact (by rw [HN.out]; exact HPN.out))
    rw [line_at _ (show a < s.n by rw [HN.out]; exact HPN.out), HSV.out] at dS
    clear hcS
    go_wp2_with (first | (refine wpList_plain rfl (fun K hK => wp_loadT aggToken _ rfl w.heap.size [.int .i64 (n : Int), .slice (some ⟨bS, oS, none⟩) n sc, .slice ha n hc, .int .i64 ho, .int .i64 tg, .slice va n vc, .slice qa qn qc, .slice wa nn wc] (by rfl) HB.out.ref.bB rfl ?_); refine hK _ _ ?_; clear hK) | (refine wpList_plain rfl (fun K hK => wp_storeT aggToken _ _ rfl (w.heap.size + 1) [.int .i64 (n : Int), .slice (some ⟨bS, oS, none⟩) n sc, .slice ha n hc, .int .i64 ho, .int .i64 tg, .slice va n vc, .slice qa qn qc, .slice wa nn wc] _ (by rfl) (by rfl) rfl HB.out.ref.bR rfl rfl ?_); intro wz hBz hcz; have HBZ := Lib.hid (HB.out.setR hBz hcz); clear hBz hcz; refine hK _ _ ?_; clear hK))
    (try simp only [Exit.inBlock, Exit.then]); refine bodyPost_ret (results_cell2 aggToken rfl _ _ _ _ (by rfl) HBZ.out.ref.bR rfl) rfl ?_
    exact BAD.out 7 _ HE.out (by omega) HBZ.out
  case pos =>
  have HINN : Hid (s.inn a = true) := Lib.hid (stOf_two.1 (by rw [HSV.out]; exact hs0))
  have HASK : Hid (s.asks a = false) := Lib.hid (HS.out.inv.holdA a HPS.out (HS.out.inv.inH a HPS.out HINN.out))
  have HE : Hid (s.leaveErr a = 0) := Lib.hid (by unfold TNet.leaveErr; rw [if_neg HOK.out, Int.toNat_natCast, if_neg (by rw [HINN.out]; simp)])
  have HDO : Hid (s.leave a = s.leave0 a) := Lib.hid (by unfold TNet.leave; rw [if_pos HE.out, Int.toNat_natCast])
  have hsb : (sv != 2) = false := by rw [hs0]; rfl
  clear hs0
  obtain ⟨hv, HHV⟩ : ∃ zz, Hid (s.had a a = zz) := ⟨_, Lib.hid rfl⟩
  go_enter Tryd.func9, Tryd.ntmps9
  go_wp2_with fail
  refine (ref6In_any _ _ _ _).mono ?_
  rintro e w2 ⟨rfl, rfl⟩
  rw [HIp.out]
  have HB := Lib.hid (Bx.start w [.int .i64 (n : Int), .slice sa n sc, .slice ha n hc, .int .i64 ho, .int .i64 tg, .slice va n vc, .slice qa qn qc, .slice wa nn wc] [.int .i64 0, .slice none 0 0, .slice none 0 0, .int .i64 0, .int .i64 0, .slice none 0 0, .slice none 0 0, .slice none 0 0] (tf s) HU.out 31 31)
  generalize ((w.alloc _).alloc _) = w2 at *
  have q1 : w2.cell? ⟨w.heap.size, 1, none⟩ = some (.slice sa n sc) := HB.out.ref.bB.cell 1
  have HRS : Hid (Rd (In S w w.heap.size (w.heap.size + 1)) w2 (.slice sa n sc) (line s.n s.stOf)) := Lib.hid (HB.out.at (f := .l (line s.n s.stOf)) 1 rfl rfl)
  obtain ⟨bS, oS, cS, eS, -, hcS⟩ := HRS.out.form (by rw [line_len, HN.out]; have := HPN.out; omega)
  rw [line_len, HN.out] at eS
  simp only [Value.slice.injEq] at eS
  obtain ⟨rfl, -, rfl⟩ := eS
  have dS := hcS a (by rw [line_len]; exact (by rw [HN.out]; exact HPN.out))
  rw [line_at _ (show a < s.n by rw [HN.out]; exact HPN.out), HSV.out] at dS
  clear hcS
  have HRL1 : Hid (Rd (In S w w.heap.size (w.heap.size + 1)) w2 (.slice (some ⟨bS, oS, none⟩) n sc) (line s.n s.stOf)) := Lib.hid (HB.out.at (f := .l (line s.n s.stOf)) 1 rfl rfl)
  go_wp2_with fail
  refine (set_ref (In S w w.heap.size (w.heap.size + 1)) _ (line s.n s.stOf) a (0) w2 HRL1.out (by rw [line_len]; exact (by rw [HN.out]; exact HPN.out)) (by rw [line_len, HN.out]; have := H5.out; omega)).mono ?_
  rintro e x1 ⟨v1, rfl, hr1, hc1⟩
  obtain ⟨a1, c1, e1⟩ := hr1.val
  rw [List.length_set, line_len, HN.out] at e1
  subst e1
  have HX1 := Lib.hid (HB.out.told (f := .l _) hr1)
  have HK1 := Lib.hid (HB.out.no hc1)
  obtain ⟨t2, HS2⟩ : ∃ zz, Hid ({ s with inn := put1 s.inn a false } = zz) := ⟨_, Lib.hid rfl⟩
  have HN2 : Hid (t2.n = n) := Lib.hid (by rw [← HS2.out]; exact HN.out)
  have HB2 : Hid (Bx S w (x1.setCell ⟨w.heap.size, 1, none⟩ (.slice a1 n c1)) w.heap.size (w.heap.size + 1) [.int .i64 (n : Int), .slice a1 n c1, .slice ha n hc, .int .i64 ho, .int .i64 tg, .slice va n vc, .slice qa qn qc, .slice wa nn wc] [.int .i64 0, .slice none 0 0, .slice none 0 0, .int .i64 0, .int .i64 0, .slice none 0 0, .slice none 0 0, .slice none 0 0] (tf t2)) := Lib.hid (by
    have h1 := HK1.out.set 1 _ _ HX1.out
    rw [tf_out _ HASK.out] at h1
    rw [← HS2.out]
    exact h1)
  clear hr1 hc1 HX1 HRL1 q1 dS hsb
  have q1 : x1.cell? ⟨w.heap.size, 1, none⟩ = some (.slice (some ⟨bS, oS, none⟩) n sc) := HK1.out.ref.bB.cell 1
  have z1 := HK1.out.ref.bB.frozen 1
  go_upto_region 6 with fail
  clear q1 z1 HK1
  generalize x1.setCell _ _ = y1 at *
  have HV1 : Hid (t2.had a a = hv) := Lib.hid (by rw [← HS2.out]; exact HHV.out)
  have q2 : y1.cell? ⟨w.heap.size, 2, none⟩ = some (.slice ha n hc) := HB2.out.ref.bB.cell 2
  have q5 : y1.cell? ⟨w.heap.size, 5, none⟩ = some (.slice va n vc) := HB2.out.ref.bB.cell 5
  have HRR : Hid (Rd2 (In S w w.heap.size (w.heap.size + 1)) y1 (.slice ha n hc) (t2.hadL)) := Lib.hid (HB2.out.at (f := .r (t2.hadL)) 2 rfl rfl)
  obtain ⟨bR, oR, cR, uR, eR, dR, hruR, hrlR⟩ := HRR.out.at (Chg.refl NoF y1) (fun _ _ h => h) (j := a) (by rw [t2.hadL_len, HN2.out]; exact HPN.out)
  rw [t2.hadL_len, HN2.out] at eR
  simp only [Value.slice.injEq] at eR
  obtain ⟨rfl, -, rfl⟩ := eR
  rw [t2.hadL_at (show a < t2.n by rw [HN2.out]; exact HPN.out)] at hruR hrlR
  obtain ⟨bH, oH, cH, rfl, -, hcH⟩ := hruR.form (by rw [line_len, HN2.out]; have := HPN.out; omega)
  have HRU := Lib.hid (Rd.relen hruR (show (line t2.n (t2.had a)).length = n by rw [line_len, HN2.out]))
  rw [line_len, HN2.out] at dR
  have dH := hcH a (by rw [line_len, HN2.out]; exact HPN.out)
  rw [line_at _ (show a < t2.n by rw [HN2.out]; exact HPN.out), HV1.out] at dH
  clear hcH hruR hrlR
  have HRV : Hid (Rd (In S w w.heap.size (w.heap.size + 1)) y1 (.slice va n vc) (line t2.n t2.served)) := Lib.hid (HB2.out.at (f := .l (line t2.n t2.served)) 5 rfl rfl)
  go_wp2_with fail
  refine wp_region_plan (Chg NoF y1) 13 [(0,true),(1,true),(2,true),(3,true),(4,true),(5,true),(6,true),(7,true),(8,true),(9,true),(10,true),(11,false),(12,true),(13,false)] mixed (by kernel_rfl) (Chg.refl _ _).drew ?_
  simp only [planOps, List.map_cons, List.map_nil, List.getElem?_cons_zero, List.getElem?_cons_succ, Option.getD_some]
  generalize hops : List.toArray _ = ops
  iterate 11 (refine wpPlan_quiet (v := ?_) rfl (fun _ _ _ h => h) (by intro w1 hS; have s0 := hS.cell_some q5 (fun h => h); have s1 := hS.cell_some q2 (fun h => h); have s2 := hS.cell_some dR (fun h => h); have s3 := hS.cell_some dH (fun h => h); clear hS; go_simp; with_reducible rfl) ?_; (simp only [Act.put, List.setIfInBounds_toArray, List.set_cons_zero, List.set_cons_succ]))
  refine wpPlan_loud rfl (fun K hK => ?_)
  go_simp
  have HD3 := Lib.hid (HB2.out.no ((Chg.refl NoF y1).drew))
  refine (set_ref (In S w w.heap.size (w.heap.size + 1)) _ (line t2.n t2.served) a hv _ (HRV.out.keep ((Chg.refl NoF y1).drew) (fun _ _ h => h)) (by rw [line_len]; exact (by rw [HN2.out]; exact HPN.out)) (by rw [line_len, HN2.out]; have := H5.out; omega)).mono ?_
  rintro e x3 ⟨v3, rfl, hr3, hc3⟩
  have HL3 : Hid (((line t2.n t2.served).set a hv).length = n) := Lib.hid (by rw [List.length_set, line_len, HN2.out])
  obtain ⟨a3, c3, e3⟩ := hr3.val
  rw [HL3.out] at e3
  subst e3
  have HC3 : Hid (Chg NoF y1 x3) := Lib.hid (((Chg.refl NoF y1).drew).trans hc3)
  have HX3 := Lib.hid (HD3.out.told (f := .l ((line t2.n t2.served).set a hv)) hr3)
  have HK3 := Lib.hid (HB2.out.no HC3.out)
  refine hK _ _ (fun _ => HC3.out) ?_
  clear hK K hr3 hc3 HD3
  (try simp only [Act.put, List.setIfInBounds_toArray, List.set_cons_zero, List.set_cons_succ])
  (refine wpPlan_quiet (v := ?_) rfl (fun _ _ _ h => h) (by intro w1 hS; clear hS; go_simp; with_reducible rfl) ?_; (simp only [Act.put, List.setIfInBounds_toArray, List.set_cons_zero, List.set_cons_succ]))
  refine wpPlan_loud rfl (fun K hK => ?_)
  have sx : x3.cell? ⟨w.heap.size, 5, none⟩ = some (.slice va n vc) := HK3.out.ref.bB.cell 5
  have zx := HK3.out.ref.bB.frozen 5
  go_simp
  refine hK _ _ (fun h => absurd rfl h) ?_
  clear hK K
  clear hops
  refine wpPlan_nil ?_
  obtain ⟨t4, HS4⟩ : ∃ zz, Hid ({ t2 with served := put1 t2.served a hv } = zz) := ⟨_, Lib.hid rfl⟩
  have HN4 : Hid (t4.n = n) := Lib.hid (by rw [← HS4.out]; exact HN2.out)
  have HB4 : Hid (Bx S w (x3.setCell ⟨w.heap.size, 5, none⟩ (.slice a3 n c3)) w.heap.size (w.heap.size + 1) [.int .i64 (n : Int), .slice a1 n c1, .slice (some ⟨bR, oR, none⟩) n hc, .int .i64 ho, .int .i64 tg, .slice a3 n c3, .slice qa qn qc, .slice wa nn wc] [.int .i64 0, .slice none 0 0, .slice none 0 0, .int .i64 0, .int .i64 0, .slice none 0 0, .slice none 0 0, .slice none 0 0] (tf t4)) := Lib.hid (by
    have h1 := HK3.out.set 5 _ _ HX3.out
    rw [tf_served] at h1
    rw [← HS4.out]
    exact h1)
  clear sx zx HX3 HC3 HK3 HB2 q2 q5 dR dH HRR HRU HRV
  generalize x3.setCell _ _ = y3 at *
  have HL1 : Hid (t4 = s.leave1 a) := Lib.hid (by rw [← HS4.out, ← HS2.out]; unfold TNet.leave1; rw [HHV.out])
  have HQ2 : Hid (t4.queue.length = qn) := Lib.hid (by rw [HL1.out]; exact HQL.out)
  have HQB : Hid (qn < 500) := Lib.hid (by rw [← HQL.out]; exact HS.out.sane.que)
  have HHB : Hid (∀ j, j < n → 0 ≤ t4.had a j ∧ t4.had a j ≤ 1000) := Lib.hid (fun j hj => by rw [HL1.out]; exact HS.out.sane.had j a (by rw [HN.out]; exact hj) HPS.out)
  have HSB : Hid (∀ j, j < n → 0 ≤ t4.served j ∧ t4.served j ≤ 1000) := Lib.hid (fun j hj => by
    rw [HL1.out]
    show 0 ≤ put1 s.served a (s.had a a) j ∧ put1 s.served a (s.had a a) j ≤ 1000
    by_cases e : j = a
    · subst e; rw [put1_self]; exact HS.out.sane.had j j HPS.out HPS.out
    · rw [put1_ne _ _ e]; exact HS.out.sane.srv j (by rw [HN.out]; exact hj))
  go_wp2_with fail
  go_loopw [6] (fun q wr => ∃ j : Nat, j ≤ n ∧ q = .int .i64 j ∧ ∃ (q1 : Option Addr) (ql q2 : Nat), Hid (Bx S w wr w.heap.size (w.heap.size + 1) [.int .i64 (n : Int), .slice a1 n c1, .slice (some ⟨bR, oR, none⟩) n hc, .int .i64 ho, .int .i64 tg, .slice a3 n c3, .slice q1 ql q2, .slice wa nn wc] [.int .i64 0, .slice none 0 0, .slice none 0 0, .int .i64 0, .int .i64 0, .slice none 0 0, .slice none 0 0, .slice none 0 0] (tf { t4 with queue := enqL t4 a j }) ∧ (enqL t4 a j).length = ql)) (fun q _ => n - (intOf q).toNat)
  case atStart => exact ⟨0, Nat.zero_le _, rfl, _, _, _, Lib.hid ⟨HB4.out, HQ2.out⟩⟩
  case round =>
    clear HB4
    obtain ⟨j, hjn, rfl, qa1, ql, qc1, HJ0⟩ := hrel
    have HQJ : Hid ((enqL t4 a j).length = ql) := Lib.hid HJ0.out.2
    obtain ⟨s5, HS5⟩ : ∃ zz, Hid ({ t4 with queue := enqL t4 a j } = zz) := ⟨_, Lib.hid rfl⟩
    have HJ : Hid (Bx S w wr w.heap.size (w.heap.size + 1) [.int .i64 (n : Int), .slice a1 n c1, .slice (some ⟨bR, oR, none⟩) n hc, .int .i64 ho, .int .i64 tg, .slice a3 n c3, .slice qa1 ql qc1, .slice wa nn wc] [.int .i64 0, .slice none 0 0, .slice none 0 0, .int .i64 0, .int .i64 0, .slice none 0 0, .slice none 0 0, .slice none 0 0] (tf s5)) := Lib.hid (by rw [← HS5.out]; exact HJ0.out.1)
    have HN5 : Hid (s5.n = n) := Lib.hid (by rw [← HS5.out]; exact HN4.out)
    have HQ5 : Hid (s5.queue = enqL t4 a j ∧ s5.queue.length = ql) := Lib.hid (by rw [← HS5.out]; exact ⟨rfl, HJ0.out.2⟩)
    have HQLB : Hid (ql < 600) := Lib.hid (by rw [← HQJ.out]; have := enq_len t4 a j; have := HQ2.out; have := HQB.out; have := H5.out; omega)
    clear HJ0
    have q0 : wr.cell? ⟨w.heap.size, 0, none⟩ = some (.int .i64 (n : Int)) := HJ.out.ref.bB.cell 0
    by_cases hj : j < n
    · have hj1 : (j : Int) < n := by omega
      have HJN : Hid (j + 1 ≤ n) := Lib.hid hj
      have HJM : Hid (j < n) := Lib.hid hj
      have hn4 := H5.out
      obtain ⟨hv5, HHV5⟩ : ∃ zz, Hid (s5.had a j = zz) := ⟨_, Lib.hid rfl⟩
      obtain ⟨sr5, HSR5⟩ : ∃ zz, Hid (s5.served j = zz) := ⟨_, Lib.hid rfl⟩
      have hb5 := HHB.out j hj
      have hr5 := HSB.out j hj
      rw [show t4.had a j = hv5 by rw [← HHV5.out, ← HS5.out]] at hb5
      rw [show t4.served j = sr5 by rw [← HSR5.out, ← HS5.out]] at hr5
      obtain ⟨hb51, hb52⟩ := hb5
      obtain ⟨hr51, hr52⟩ := hr5
      have hwr : IntKind.i64.wrap (sr5 + 1) = sr5 + 1 := IntWalk.i64_in _ (by omega)
      clear hj hjn
      have q2 : wr.cell? ⟨w.heap.size, 2, none⟩ = some (.slice (some ⟨bR, oR, none⟩) n hc) := HJ.out.ref.bB.cell 2
      have q5 : wr.cell? ⟨w.heap.size, 5, none⟩ = some (.slice a3 n c3) := HJ.out.ref.bB.cell 5
      have HRR : Hid (Rd2 (In S w w.heap.size (w.heap.size + 1)) wr (.slice (some ⟨bR, oR, none⟩) n hc) (s5.hadL)) := Lib.hid (HJ.out.at (f := .r (s5.hadL)) 2 rfl rfl)
      obtain ⟨bR, oR, cR, uR, eR, dR, hruR, hrlR⟩ := HRR.out.at (Chg.refl NoF wr) (fun _ _ h => h) (j := a) (by rw [s5.hadL_len, HN5.out]; exact HPN.out)
      rw [s5.hadL_len, HN5.out] at eR
      simp only [Value.slice.injEq, Option.some.injEq, Addr.mk.injEq, and_true] at eR
      obtain ⟨⟨rfl, rfl⟩, -, rfl⟩ := eR
      rw [s5.hadL_at (show a < s5.n by rw [HN5.out]; exact HPN.out)] at hruR hrlR
      obtain ⟨bH, oH, cH, rfl, -, hcH⟩ := hruR.form (by rw [line_len, HN5.out]; have := HPN.out; omega)
      have HRU := Lib.hid (Rd.relen hruR (show (line s5.n (s5.had a)).length = n by rw [line_len, HN5.out]))
      rw [line_len, HN5.out] at dR
      have dH := hcH j (by rw [line_len, HN5.out]; exact HJM.out)
      rw [line_at _ (show j < s5.n by rw [HN5.out]; exact HJM.out), HHV5.out] at dH
      clear hcH hruR hrlR
      have HRV : Hid (Rd (In S w w.heap.size (w.heap.size + 1)) wr (.slice a3 n c3) (line s5.n s5.served)) := Lib.hid (HJ.out.at (f := .l (line s5.n s5.served)) 5 rfl rfl)
      obtain ⟨bV, oV, cV, eV, -, hcV⟩ := HRV.out.form (by rw [line_len, HN5.out]; have := HJM.out; omega)
      rw [line_len, HN5.out] at eV
      simp only [Value.slice.injEq] at eV
      obtain ⟨rfl, -, rfl⟩ := eV
      have dV := hcV j (by rw [line_len]; exact (by rw [HN5.out]; exact HJM.out))
      rw [line_at _ (show j < s5.n by rw [HN5.out]; exact HJM.out), HSR5.out] at dV
      clear hcV
      by_cases heq : hv5 = sr5 + 1
      case neg =>
        have heb : (hv5 == sr5 + 1) = false := by rw [beq_eq_false_iff_ne]; exact heq
        have HEN : Hid (enqL t4 a (j + 1) = enqL t4 a j) := Lib.hid (by rw [enqL, if_neg]; intro hh; have h1 := hh.1; rw [show t4.had a j = hv5 by rw [← HHV5.out, ← HS5.out], show t4.served j = sr5 by rw [← HSR5.out, ← HS5.out]] at h1; exact heq h1)
        have HJD := Lib.hid (HJ.out.no ((Chg.refl NoF wr).drew))
        have HJ2 : Hid (Bx S w wr.drew w.heap.size (w.heap.size + 1) [.int .i64 (n : Int), .slice a1 n c1, .slice (some ⟨bR, oR, none⟩) n hc, .int .i64 ho, .int .i64 tg, .slice (some ⟨bV, oV, none⟩) n c3, .slice qa1 ql qc1, .slice wa nn wc] [.int .i64 0, .slice none 0 0, .slice none 0 0, .int .i64 0, .int .i64 0, .slice none 0 0, .slice none 0 0, .slice none 0 0] (tf { t4 with queue := enqL t4 a (j + 1) }) ∧ (enqL t4 a (j + 1)).length = ql) := Lib.hid ⟨by rw [HEN.out, HS5.out]; exact HJD.out, by rw [HEN.out]; exact HQJ.out⟩
        clear heq
        go_wp2_with fail
        refine wp_region_plan (Chg NoF wr) 22 [(0,true),(1,true),(2,true),(3,true),(4,true),(5,true),(6,true),(7,true),(8,true),(9,true),(10,true),(11,true),(12,true),(13,true),(14,true),(15,true),(16,true),(17,true),(18,true),(19,false),(20,true),(21,true)] mixed (by kernel_rfl) (Chg.refl _ _).drew ?_
        simp only [planOps, List.map_cons, List.map_nil, List.getElem?_cons_zero, List.getElem?_cons_succ, Option.getD_some]
        generalize hops : List.toArray _ = ops
        iterate 16 (refine wpPlan_quiet (v := ?_) rfl (fun _ _ _ h => h) (by intro w1 hS; have s0 := hS.cell_some q2 (fun h => h); have s1 := hS.cell_some dR (fun h => h); have s2 := hS.cell_some dH (fun h => h); have s3 := hS.cell_some q5 (fun h => h); have s4 := hS.cell_some dV (fun h => h); clear hS; go_simp; with_reducible rfl) ?_; (simp only [Act.put, List.setIfInBounds_toArray, List.set_cons_zero, List.set_cons_succ]))
        iterate 3 (refine wpPlan_skip (by rw [← hops]; rfl) (fun _ _ _ h => h) ?_; (simp only [Act.put, List.setIfInBounds_toArray, List.set_cons_zero, List.set_cons_succ]))
        refine wpPlan_loudN (by rw [← hops]; rfl) (Chg.refl _ _).drew ?_
        (try simp only [Act.put, List.setIfInBounds_toArray, List.set_cons_zero, List.set_cons_succ])
        iterate 1 (refine wpPlan_skip (by rw [← hops]; rfl) (fun _ _ _ h => h) ?_; (simp only [Act.put, List.setIfInBounds_toArray, List.set_cons_zero, List.set_cons_succ]))
        (refine wpPlan_quiet (v := ?_) rfl (fun _ _ _ h => h) (by intro w1 hS; clear hS; go_simp; with_reducible rfl) ?_; (simp only [Act.put, List.setIfInBounds_toArray, List.set_cons_zero, List.set_cons_succ]))
        clear hops
        refine wpPlan_nil ?_
        clear q0 q2 q5 dR dH dV heb hwr
        go_wp2
        go_roundw
        case rel => first | exact ⟨j + 1, HJN.out, by go_num, _, _, _, HJ2⟩ | ((repeat apply Exists.intro); exact ⟨⟨HJN.out, by go_num, _, _, _, HJ2⟩, rfl⟩)
        case measure => have := HJN.out; simp [intOf]; omega
      case pos =>
      have heb : (hv5 == sr5 + 1) = true := by rw [beq_iff_eq]; exact heq
      have HEQ : Hid (t4.had a j = t4.served j + 1) := Lib.hid (by rw [show t4.had a j = hv5 by rw [← HHV5.out, ← HS5.out], show t4.served j = sr5 by rw [← HSR5.out, ← HS5.out]]; exact heq)
      clear heq
      have q6 : wr.cell? ⟨w.heap.size, 6, none⟩ = some (.slice qa1 ql qc1) := HJ.out.ref.bB.cell 6
      have HRQQ : Hid (Rd (In S w w.heap.size (w.heap.size + 1)) wr (.slice qa1 ql qc1) (s5.queue)) := Lib.hid (HJ.out.at (f := .l (s5.queue)) 6 rfl rfl)
      have HHAS := Lib.hid (has_ref (In S w w.heap.size (w.heap.size + 1)) _ s5.queue (j : Int) wr.drew (HRQQ.out.keep ((Chg.refl NoF wr).drew) (fun _ _ h => h)) (by rw [HQ5.out.2]; have := HQLB.out; omega))
      cases hct : s5.queue.contains (j : Int) with
      | true =>
        have HEN : Hid (enqL t4 a (j + 1) = enqL t4 a j) := Lib.hid (by rw [enqL, if_neg]; intro hh; have h1 := hh.2; rw [← HQ5.out.1, hct] at h1; cases h1)
        have HJD := Lib.hid (HJ.out.no ((Chg.refl NoF wr).drew))
        have HJ2 : Hid (Bx S w wr.drew w.heap.size (w.heap.size + 1) [.int .i64 (n : Int), .slice a1 n c1, .slice (some ⟨bR, oR, none⟩) n hc, .int .i64 ho, .int .i64 tg, .slice (some ⟨bV, oV, none⟩) n c3, .slice qa1 ql qc1, .slice wa nn wc] [.int .i64 0, .slice none 0 0, .slice none 0 0, .int .i64 0, .int .i64 0, .slice none 0 0, .slice none 0 0, .slice none 0 0] (tf { t4 with queue := enqL t4 a (j + 1) }) ∧ (enqL t4 a (j + 1)).length = ql) := Lib.hid ⟨by rw [HEN.out, HS5.out]; exact HJD.out, by rw [HEN.out]; exact HQJ.out⟩
        rw [hct] at HHAS
        clear hct
        go_wp2_with fail
        refine wp_region_plan (Chg NoF wr) 22 [(0,true),(1,true),(2,true),(3,true),(4,true),(5,true),(6,true),(7,true),(8,true),(9,true),(10,true),(11,true),(12,true),(13,true),(14,true),(15,true),(16,true),(17,true),(18,true),(19,false),(20,true),(21,true)] mixed (by kernel_rfl) (Chg.refl _ _).drew ?_
        simp only [planOps, List.map_cons, List.map_nil, List.getElem?_cons_zero, List.getElem?_cons_succ, Option.getD_some]
        generalize hops : List.toArray _ = ops
        iterate 16 (refine wpPlan_quiet (v := ?_) rfl (fun _ _ _ h => h) (by intro w1 hS; have s0 := hS.cell_some q2 (fun h => h); have s1 := hS.cell_some dR (fun h => h); have s2 := hS.cell_some dH (fun h => h); have s3 := hS.cell_some q5 (fun h => h); have s4 := hS.cell_some dV (fun h => h); clear hS; go_simp; with_reducible rfl) ?_; (simp only [Act.put, List.setIfInBounds_toArray, List.set_cons_zero, List.set_cons_succ]))
        iterate 3 (refine wpPlan_quietG (v := ?_) (by rw [← hops]; rfl) (fun _ _ _ h => h) (by intro w1 hS; have s0 := hS.cell_some q6 (fun h => h); clear hS; go_simp; with_reducible rfl) ?_; (simp only [Act.put, List.setIfInBounds_toArray, List.set_cons_zero, List.set_cons_succ]))
        refine wpPlan_loudG (by rw [← hops]; rfl) (fun K hK => ?_)
        go_simp
        refine HHAS.out.mono ?_
        rintro e w6 ⟨rfl, rfl⟩
        refine hK _ _ (fun _ => (Chg.refl NoF wr).drew) ?_
        clear hK K
        (try simp only [Act.put, List.setIfInBounds_toArray, List.set_cons_zero, List.set_cons_succ])
        (refine wpPlan_quietG (v := ?_) (by rw [← hops]; rfl) (fun _ _ _ h => h) (by intro w1 hS; clear hS; go_simp; with_reducible rfl) ?_; (simp only [Act.put, List.setIfInBounds_toArray, List.set_cons_zero, List.set_cons_succ]))
        (refine wpPlan_quiet (v := ?_) rfl (fun _ _ _ h => h) (by intro w1 hS; clear hS; go_simp; with_reducible rfl) ?_; (simp only [Act.put, List.setIfInBounds_toArray, List.set_cons_zero, List.set_cons_succ]))
        clear hops
        refine wpPlan_nil ?_
        clear q0 q2 q5 q6 dR dH dV heb hwr
        go_wp2
        go_roundw
        case rel => first | exact ⟨j + 1, HJN.out, by go_num, _, _, _, HJ2⟩ | ((repeat apply Exists.intro); exact ⟨⟨HJN.out, by go_num, _, _, _, HJ2⟩, rfl⟩)
        case measure => have := HJN.out; simp [intOf]; omega
      | false =>
      have HEN : Hid (enqL t4 a (j + 1) = enqL t4 a j ++ [(j : Int)]) := Lib.hid (by rw [enqL, if_pos ⟨HEQ.out, by rw [← HQ5.out.1]; exact hct⟩])
      rw [hct] at HHAS
      clear hct
      go_wp2_with fail
      refine wp_region_plan (Chg NoF wr) 22 [(0,true),(1,true),(2,true),(3,true),(4,true),(5,true),(6,true),(7,true),(8,true),(9,true),(10,true),(11,true),(12,true),(13,true),(14,true),(15,true),(16,true),(17,true),(18,true),(19,false),(20,true),(21,true)] mixed (by kernel_rfl) (Chg.refl _ _).drew ?_
      simp only [planOps, List.map_cons, List.map_nil, List.getElem?_cons_zero, List.getElem?_cons_succ, Option.getD_some]
      generalize hops : List.toArray _ = ops
      iterate 16 (refine wpPlan_quiet (v := ?_) rfl (fun _ _ _ h => h) (by intro w1 hS; have s0 := hS.cell_some q2 (fun h => h); have s1 := hS.cell_some dR (fun h => h); have s2 := hS.cell_some dH (fun h => h); have s3 := hS.cell_some q5 (fun h => h); have s4 := hS.cell_some dV (fun h => h); clear hS; go_simp; with_reducible rfl) ?_; (simp only [Act.put, List.setIfInBounds_toArray, List.set_cons_zero, List.set_cons_succ]))
      iterate 3 (refine wpPlan_quietG (v := ?_) (by rw [← hops]; rfl) (fun _ _ _ h => h) (by intro w1 hS; have s0 := hS.cell_some q6 (fun h => h); clear hS; go_simp; with_reducible rfl) ?_; (simp only [Act.put, List.setIfInBounds_toArray, List.set_cons_zero, List.set_cons_succ]))
      refine wpPlan_loudG (by rw [← hops]; rfl) (fun K hK => ?_)
      go_simp
      refine HHAS.out.mono ?_
      rintro e w6 ⟨rfl, rfl⟩
      refine hK _ _ (fun _ => (Chg.refl NoF wr).drew) ?_
      clear hK K
      (try simp only [Act.put, List.setIfInBounds_toArray, List.set_cons_zero, List.set_cons_succ])
      (refine wpPlan_quietG (v := ?_) (by rw [← hops]; rfl) (fun _ _ _ h => h) (by intro w1 hS; clear hS; go_simp; with_reducible rfl) ?_; (simp only [Act.put, List.setIfInBounds_toArray, List.set_cons_zero, List.set_cons_succ]))
      (refine wpPlan_quiet (v := ?_) rfl (fun _ _ _ h => h) (by intro w1 hS; clear hS; go_simp; with_reducible rfl) ?_; (simp only [Act.put, List.setIfInBounds_toArray, List.set_cons_zero, List.set_cons_succ]))
      clear hops
      refine wpPlan_nil ?_
      have HJD := Lib.hid (HJ.out.no ((Chg.refl NoF wr).drew))
      clear q0 q2 q5 q6 dR dH dV heb hwr HJ HRQQ
      generalize wr.drew = wd at *
      have HRQQ : Hid (Rd (In S w w.heap.size (w.heap.size + 1)) wd (.slice qa1 ql qc1) (s5.queue)) := Lib.hid (HJD.out.at (f := .l (s5.queue)) 6 rfl rfl)
      have q6 : wd.cell? ⟨w.heap.size, 6, none⟩ = some (.slice qa1 ql qc1) := HJD.out.ref.bB.cell 6
      go_wp2_with fail
      refine (more_ref (In S w w.heap.size (w.heap.size + 1)) _ s5.queue (j : Int) wd HRQQ.out (by rw [HQ5.out.2]; have := HQLB.out; omega)).mono ?_
      rintro e w8 ⟨v8, rfl, hr8, hc8⟩
      have HL8 : Hid ((s5.queue ++ [(j : Int)]).length = ql + 1) := Lib.hid (by rw [List.length_append, HQ5.out.2]; rfl)
      obtain ⟨a8, c8, e8⟩ := hr8.val
      rw [HL8.out] at e8
      subst e8
      have HX8 := Lib.hid (HJD.out.told (f := .l _) hr8)
      have HN8 := Lib.hid (HJD.out.no hc8)
      have HJ2 : Hid (Bx S w (w8.setCell ⟨w.heap.size, 6, none⟩ (.slice a8 (ql + 1) c8)) w.heap.size (w.heap.size + 1) [.int .i64 (n : Int), .slice a1 n c1, .slice (some ⟨bR, oR, none⟩) n hc, .int .i64 ho, .int .i64 tg, .slice (some ⟨bV, oV, none⟩) n c3, .slice a8 (ql + 1) c8, .slice wa nn wc] [.int .i64 0, .slice none 0 0, .slice none 0 0, .int .i64 0, .int .i64 0, .slice none 0 0, .slice none 0 0, .slice none 0 0] (tf { t4 with queue := enqL t4 a (j + 1) }) ∧ (enqL t4 a (j + 1)).length = ql + 1) := Lib.hid ⟨by
        have h1 := HN8.out.set 6 _ _ HX8.out
        rw [tf_queue, HQ5.out.1, ← HEN.out, ← HS5.out] at h1
        exact h1, by rw [HEN.out, List.length_append, HQJ.out]; rfl⟩
      clear hr8 hc8 q6 HJD
      have q6 : w8.cell? ⟨w.heap.size, 6, none⟩ = some (.slice qa1 ql qc1) := HN8.out.ref.bB.cell 6
      have z6 := HN8.out.ref.bB.frozen 6
      go_wp2
      go_roundw
      case rel => first | exact ⟨j + 1, HJN.out, by go_num, _, _, _, HJ2⟩ | ((repeat apply Exists.intro); exact ⟨⟨HJN.out, by go_num, _, _, _, HJ2⟩, rfl⟩)
      case measure => have := HJN.out; simp [intOf]; omega
    · obtain rfl : n = j := by omega
      have hj1 : ¬ (n : Int) < n := by omega
      have HFI : Hid (s.leave a = s5.give) := Lib.hid (by rw [HDO.out, ← HS5.out, HL1.out, ← HN.out]; rfl)
      clear hj hjn
      go_wp2_with (refine wpList_plain rfl (fun K hK => wp_loadT aggToken _ rfl w.heap.size [.int .i64 (n : Int), .slice a1 n c1, .slice (some ⟨bR, oR, none⟩) n hc, .int .i64 ho, .int .i64 tg, .slice a3 n c3, .slice qa1 ql qc1, .slice wa nn wc] (by rfl) HJ.out.ref.bB rfl ?_); refine hK _ _ ?_; clear hK)
      refine (give_ref (In S w w.heap.size (w.heap.size + 1)) _ _ s5 HJ.out.fld (by rw [HN5.out]; exact H5.out) (by rw [HQ5.out.2]; have := HQLB.out; omega)).mono ?_
      rintro e w8 ⟨v8, rfl, us8, rfl, hr8, hc8⟩
      have HR8 := Lib.hid (HJ.out.toldS hr8)
      have HB8 := Lib.hid (HJ.out.no hc8)
      clear hr8 hc8
      go_wp2_with (refine wpList_plain rfl (fun K hK => wp_storeT aggToken _ _ rfl (w.heap.size + 1) us8 _ (by rfl) (by rfl) HR8.out.len HB8.out.ref.bR rfl HR8.out.one ?_); intro w9 hB9 hc9; have HB9 := Lib.hid hB9; have HC9 : Hid (Chg NoF w w9) := Lib.hid (HB8.out.ref.chg.trans2 hc9 fun i _ hi => .inr (by have hi : i = w.heap.size + 1 := hi; omega)); have HR9 : Hid (RdS (More S w) w9 us8 (tf s5.give)) := Lib.hid ((HR8.out.keep hc9 (fun b hb e => (HB8.out.notB b hb).2 e)).mono (fun b _ hb => hb.elim (fun h => .inl h.1) (fun h => .inr h.1))); clear hB9 hc9; refine hK _ _ ?_; clear hK)
      (try simp only [Exit.inBlock, Exit.then]); refine bodyPost_ret (results_cell2 aggToken rfl _ _ _ _ (by rfl) HB9.out HR8.out.len) rfl ?_
      exact ⟨_, by rw [HE.out]; rfl, us8, rfl, by rw [HFI.out]; exact HR9.out, HC9.out⟩

end Go.Proofs.YthblnljjhbdejaaDoor
