/-
  The document's answers about the net that tells all of all: a note taken.
  Conditions: the answer's lists are read, and tell the program's net.
-/
import Derived.Test.YtiakkhahohhpaaaDoorCsS
namespace Go.Proofs.YtiakkhahohhpaaaDoor
open Go Go.RowKit

theorem CNet.isNote_in (s : CNet) (k : Int) : inB k 0 ((s.m : Int) - 1) = s.isNote k := rfl

def TakeRP (S : Nat → Prop) (w : World) (s' : CNet) (err : Int) (e : Ending) (w' : World) : Prop :=
  ∃ v', e = .returned (.tuple #[v', .int .i64 err]) ∧ RC (More S w) w' v' s' ∧ Chg NoF w w'

/-- While the counts are looked at. -/
structure TakeW (w0 w : World) (n : Nat) (us rs : List Value) (gM cM : Nat) (f : Nat → Int) : Prop where
  ref : RefW w0 w w0.heap.size (w0.heap.size + 1) us rs
  row : w.ownsRow 0 3 1 (.slice (some ⟨gM, 0, none⟩) n cM) n ((List.range n).map fun q => .int .i64 (f q))
theorem TakeW.no {w0 w w1 : World} {n : Nat} {us rs : List Value} {gM cM : Nat} {f : Nat → Int} (h : TakeW w0 w n us rs gM cM f) (hc : Chg NoF w w1) : TakeW w0 w1 n us rs gM cM f :=
  ⟨h.ref.no hc, hc.row h.row fun _ _ h => h⟩

set_option maxHeartbeats 8000000 in
set_option maxRecDepth 100000 in
theorem take_ref (S : Nat → Prop) (w : World) (v : Value) (s : CNet) (h : RC S w v s) (hs : CInv s s.m) (p k : Int) :
    Calls Tryd.prog 18 #[v, .int .i64 p, .int .i64 k] w (TakeRP S w (s.take p k) (s.takeErr p k)) := by
  have h := h.mono (S' := fun b => S b ∧ b < w.heap.size) (fun b hb hS => ⟨hS, hb⟩)
  have HRC := Lib.hid h
  obtain ⟨vb, vh, vg, rfl, hb, hh, hg⟩ := h
  have HBY := Lib.hid hb
  have HHA := Lib.hid hh
  have HGO := Lib.hid hg
  obtain ⟨ba, bc, rfl⟩ := hb.val
  obtain ⟨ha, hc, rfl⟩ := hh.val
  obtain ⟨ga, gc, rfl⟩ := hg.val
  rw [s.byL_len] at HBY
  rw [s.hadL_len] at HHA
  rw [s.gotLs_len] at HGO
  rw [s.byL_len, s.hadL_len, s.gotLs_len] at HRC ⊢
  have HINV := Lib.hid hs
  obtain ⟨n, HN⟩ : ∃ n, Hid (s.n = n) := ⟨_, Lib.hid rfl⟩
  obtain ⟨m, HM⟩ : ∃ m, Hid (s.m = m) := ⟨_, Lib.hid rfl⟩
  have hn4 := hs.n4
  have hn1 := hs.n1
  have hm20 := hs.m20
  rw [HN.out] at HRC HGO hn4 hn1 ⊢
  rw [HM.out] at HRC HBY HHA hm20 ⊢
  have BAD : Hid (∀ x (w' : World) (gB gR : Nat), s.takeErr p k = x → x ≠ 0 → RefW w w' gB gR [.int .i64 n, .slice ba m bc, .slice ha m hc, .slice ga n gc] [.int .i64 n, .slice ba m bc, .slice ha m hc, .slice ga n gc] →
      TakeRP S w (s.take p k) (s.takeErr p k) (.returned (.tuple #[.agg #[.int .i64 n, .slice ba m bc, .slice ha m hc, .slice ga n gc], .int .i64 x])) w') := Lib.hid fun x w' gB gR he hx hR => by
    have h1 : s.take p k = s := by unfold CNet.take; rw [if_neg (by rw [he]; exact hx)]
    rw [h1, he]
    exact ⟨_, rfl, (HRC.out.keep hR.chg (fun _ _ h => h)).mono fun _ _ h => .inl h.1, hR.chg⟩
  have HIS : Hid (inB p 0 ((n : Int) - 1) = s.is p) := Lib.hid (by rw [← HN.out]; exact s.is_in p)
  have HIK : Hid (inB k 0 ((m : Int) - 1) = s.isNote k) := Lib.hid (by rw [← HM.out]; exact s.isNote_in k)
  have hwn : wrap64 ((n : Int) - 1) = (n : Int) - 1 := IntWalk.wrap64_in _ (by omega)
  have hwm : wrap64 ((m : Int) - 1) = (m : Int) - 1 := IntWalk.wrap64_in _ (by omega)
  clear hb hh hg hs
  cases hip : s.is p with
  | false =>
    have HE : Hid (s.takeErr p k = 1) := Lib.hid (by unfold CNet.takeErr; rw [if_pos hip])
    rw [hip] at HIS
    clear hip
    go_enter Tryd.func18, Tryd.ntmps18
    go_wp2_with fail
    refine (ref6In_any _ _ _ _).mono ?_
    rintro e w2 ⟨rfl, rfl⟩
    rw [HIS.out]
    have HR := Lib.hid (RefW.start w [.int .i64 n, .slice ba m bc, .slice ha m hc, .slice ga n gc] [.int .i64 0, .slice none 0 0, .slice none 0 0, .slice none 0 0] 41 41)
    have HSZ : Hid (((w.alloc (.cells #[.int .i64 n, .slice ba m bc, .slice ha m hc, .slice ga n gc] 41)).alloc (.cells #[.int .i64 0, .slice none 0 0, .slice none 0 0, .slice none 0 0] 41)).heap.size = w.heap.size + 2) := Lib.hid (by simp)
    generalize ((w.alloc _).alloc _) = w2 at *
    go_wp2_with (first | (refine wpList_plain rfl (fun K hK => wp_loadT aggCast _ rfl w.heap.size [.int .i64 n, .slice ba m bc, .slice ha m hc, .slice ga n gc] (by rfl) HR.out.bB rfl ?_); refine hK _ _ ?_; clear hK) | (refine wpList_plain rfl (fun K hK => wp_storeT aggCast _ _ rfl (w.heap.size + 1) [.int .i64 n, .slice ba m bc, .slice ha m hc, .slice ga n gc] _ (by rfl) (by rfl) rfl HR.out.bR rfl rfl ?_); intro wz hBz hcz; have HR3 := Lib.hid (HR.out.store hBz hcz); have HC12 := Lib.hid hcz; clear hBz hcz; refine hK _ _ ?_; clear hK))
    (try simp only [Exit.inBlock, Exit.then]); refine bodyPost_ret (results_cell2 aggCast rfl _ _ _ _ (by rfl) HR3.out.bR rfl) rfl ?_
    exact BAD.out 1 _ _ _ HE.out (by omega) HR3.out
  | true =>
  rw [hip] at HIS
  cases hik : s.isNote k with
  | false =>
    have HE : Hid (s.takeErr p k = 1) := Lib.hid (by unfold CNet.takeErr; rw [if_neg (by rw [hip]; simp), if_pos hik])
    rw [hik] at HIK
    clear hip hik
    go_enter Tryd.func18, Tryd.ntmps18
    go_wp2_with fail
    refine (ref6In_any _ _ _ _).mono ?_
    rintro e w2 ⟨rfl, rfl⟩
    rw [HIS.out]
    have HR := Lib.hid (RefW.start w [.int .i64 n, .slice ba m bc, .slice ha m hc, .slice ga n gc] [.int .i64 0, .slice none 0 0, .slice none 0 0, .slice none 0 0] 41 41)
    have HSZ : Hid (((w.alloc (.cells #[.int .i64 n, .slice ba m bc, .slice ha m hc, .slice ga n gc] 41)).alloc (.cells #[.int .i64 0, .slice none 0 0, .slice none 0 0, .slice none 0 0] 41)).heap.size = w.heap.size + 2) := Lib.hid (by simp)
    generalize ((w.alloc _).alloc _) = w2 at *
    have c1 : w2.cell? ⟨w.heap.size, 1, none⟩ = some (.slice ba m bc) := HR.out.bB.cell 1
    go_wp2_with fail
    refine (ref6In_any _ _ _ _).mono ?_
    rintro e w3 ⟨rfl, rfl⟩
    rw [HIK.out]
    go_wp2_with (first | (refine wpList_plain rfl (fun K hK => wp_loadT aggCast _ rfl w.heap.size [.int .i64 n, .slice ba m bc, .slice ha m hc, .slice ga n gc] (by rfl) HR.out.bB rfl ?_); refine hK _ _ ?_; clear hK) | (refine wpList_plain rfl (fun K hK => wp_storeT aggCast _ _ rfl (w.heap.size + 1) [.int .i64 n, .slice ba m bc, .slice ha m hc, .slice ga n gc] _ (by rfl) (by rfl) rfl HR.out.bR rfl rfl ?_); intro wz hBz hcz; have HR3 := Lib.hid (HR.out.store hBz hcz); have HC12 := Lib.hid hcz; clear hBz hcz; refine hK _ _ ?_; clear hK))
    (try simp only [Exit.inBlock, Exit.then]); refine bodyPost_ret (results_cell2 aggCast rfl _ _ _ _ (by rfl) HR3.out.bR rfl) rfl ?_
    exact BAD.out 1 _ _ _ HE.out (by omega) HR3.out
  | true =>
    rw [hik] at HIK
    obtain ⟨a, rfl, han⟩ := (s.is_iff p).1 hip
    obtain ⟨z, rfl, hzm⟩ := (s.isNote_iff k).1 hik
    have HPS := Lib.hid han
    have HZM := Lib.hid hzm
    rw [HN.out] at han
    rw [HM.out] at hzm
    have HTE : Hid (s.takeErr a z = if (s.got a).contains (z : Int) = true then 6 else if fitsL s a z s.n = false then 7 else 0) := Lib.hid (by
      unfold CNet.takeErr; rw [if_neg (by rw [hip]; simp), if_neg (by rw [hik]; simp), Int.toNat_natCast, Int.toNat_natCast])
    obtain ⟨gl, HGL⟩ : ∃ gl, Hid ((s.got a).length = gl) := ⟨_, Lib.hid rfl⟩
    have HGB : Hid (gl ≤ 20) := Lib.hid (by rw [← HGL.out]; have := HINV.out.got_le HPS.out; have := HM.out; omega)
    have ha1 : (a : Int) < n := by omega
    have hz1 : (z : Int) < m := by omega
    clear hip hik
    go_enter Tryd.func18, Tryd.ntmps18
    go_wp2_with fail
    refine (ref6In_any _ _ _ _).mono ?_
    rintro e w2 ⟨rfl, rfl⟩
    rw [HIS.out]
    have HR := Lib.hid (RefW.start w [.int .i64 n, .slice ba m bc, .slice ha m hc, .slice ga n gc] [.int .i64 0, .slice none 0 0, .slice none 0 0, .slice none 0 0] 41 41)
    have HSZ : Hid (((w.alloc (.cells #[.int .i64 n, .slice ba m bc, .slice ha m hc, .slice ga n gc] 41)).alloc (.cells #[.int .i64 0, .slice none 0 0, .slice none 0 0, .slice none 0 0] 41)).heap.size = w.heap.size + 2) := Lib.hid (by simp)
    generalize ((w.alloc _).alloc _) = w2 at *
    have c1 : w2.cell? ⟨w.heap.size, 1, none⟩ = some (.slice ba m bc) := HR.out.bB.cell 1
    go_wp2_with fail
    refine (ref6In_any _ _ _ _).mono ?_
    rintro e w3 ⟨rfl, rfl⟩
    rw [HIK.out]
    have c3 : w2.cell? ⟨w.heap.size, 3, none⟩ = some (.slice ga n gc) := HR.out.bB.cell 3
    obtain ⟨bG, oG, cG, u, ev, dr, hru, -⟩ := HGO.out.at HR.out.chg (fun _ _ h => h) (j := a) (by rw [s.gotLs_len]; exact HPS.out)
    rw [s.gotLs_at HPS.out] at hru
    rw [s.gotLs_len, HN.out] at ev
    simp only [Value.slice.injEq] at ev
    obtain ⟨rfl, -, rfl⟩ := ev
    have HRU := Lib.hid hru
    obtain ⟨ua, uc, rfl⟩ := hru.val
    rw [HGL.out] at dr HRU
    clear hru
    go_wp2_with fail
    refine (has_ref _ _ (s.got a) z w2 HRU.out (by rw [HGL.out]; have := HGB.out; omega)).mono ?_
    rintro e w3 ⟨rfl, rfl⟩
    cases hct : (s.got a).contains (z : Int) with
    | true =>
      have HE : Hid (s.takeErr a z = 6) := Lib.hid (by rw [HTE.out, if_pos hct])
      clear hct dr c1 c3
      go_wp2_with (first | (refine wpList_plain rfl (fun K hK => wp_loadT aggCast _ rfl w.heap.size [.int .i64 n, .slice ba m bc, .slice ha m hc, .slice (some ⟨bG, oG, none⟩) n gc] (by rfl) HR.out.bB rfl ?_); refine hK _ _ ?_; clear hK) | (refine wpList_plain rfl (fun K hK => wp_storeT aggCast _ _ rfl (w.heap.size + 1) [.int .i64 n, .slice ba m bc, .slice ha m hc, .slice (some ⟨bG, oG, none⟩) n gc] _ (by rfl) (by rfl) rfl HR.out.bR rfl rfl ?_); intro wz hBz hcz; have HR3 := Lib.hid (HR.out.store hBz hcz); have HC12 := Lib.hid hcz; clear hBz hcz; refine hK _ _ ?_; clear hK))
      (try simp only [Exit.inBlock, Exit.then]); refine bodyPost_ret (results_cell2 aggCast rfl _ _ _ _ (by rfl) HR3.out.bR rfl) rfl ?_
      exact BAD.out 6 _ _ _ HE.out (by omega) HR3.out
    | false =>
      have HTE2 : Hid (s.takeErr a z = if fitsL s a z s.n = false then 7 else 0) := Lib.hid (by rw [HTE.out, if_neg (by rw [hct]; simp)])
      have HTK : Hid (s.takeErr a z = 0 → s.take a z = s.keep a z) := Lib.hid (fun h => by unfold CNet.take; rw [if_pos h, Int.toNat_natCast, Int.toNat_natCast])
      have HRC3 : Hid (RC (fun b => S b ∧ b < w.heap.size) w2 (.agg #[.int .i64 n, .slice ba m bc, .slice ha m hc, .slice (some ⟨bG, oG, none⟩) n gc]) s) := Lib.hid (HRC.out.keep HR.out.chg (fun _ _ h => h))
      clear hct HTE dr c1 c3
      go_wp2_with (refine wpList_plain rfl (fun K hK => wp_loadT aggCast _ rfl w.heap.size [.int .i64 n, .slice ba m bc, .slice ha m hc, .slice (some ⟨bG, oG, none⟩) n gc] (by rfl) HR.out.bB rfl ?_); refine hK _ _ ?_; clear hK)
      refine (many_ref _ w2 _ s HRC3.out HINV.out a HPS.out).mono ?_
      rintro e w4 ⟨vr, rfl, hown4, hge4, hc4⟩
      rw [HN.out] at hown4
      obtain ⟨gM, cM, rfl, -, -⟩ := hown4.form (by omega)
      have HTW : Hid (TakeW w w4 n [.int .i64 n, .slice ba m bc, .slice ha m hc, .slice (some ⟨bG, oG, none⟩) n gc] [.int .i64 0, .slice none 0 0, .slice none 0 0, .slice none 0 0] gM cM (s.had a)) := Lib.hid ⟨HR.out.no hc4, hown4⟩
      have H2S : Hid (w2.heap.size ≤ w4.heap.size) := Lib.hid hc4.size
      clear hown4 hge4 hc4 HR
      have c0 := 0
      clear c0
      go_wp2_with fail
      go_loopw [9] (fun i wr => ∃ j : Nat, j ≤ n ∧ i = .int .i64 j ∧ Hid (TakeW w wr n [.int .i64 n, .slice ba m bc, .slice ha m hc, .slice (some ⟨bG, oG, none⟩) n gc] [.int .i64 0, .slice none 0 0, .slice none 0 0, .slice none 0 0] gM cM (s.had a) ∧ w2.heap.size ≤ wr.heap.size ∧ fitsL s a z j = true)) (fun i _ => n - (intOf i).toNat)
      case atStart => exact ⟨0, Nat.zero_le _, rfl, Lib.hid ⟨HTW.out, H2S.out, rfl⟩⟩
      case round =>
        clear HTW H2S
        obtain ⟨j, hjn, rfl, HJ⟩ := hrel
        have c0 : wr.cell? ⟨w.heap.size, 0, none⟩ = some (.int .i64 n) := HJ.out.1.ref.bB.cell 0
        by_cases hj : j < n
        · have hj1 : (j : Int) < n := by omega
          have HJN : Hid (j + 1 ≤ n) := Lib.hid hj
          have HJS : Hid (j < s.n) := Lib.hid (by rw [HN.out]; exact hj)
          have HTJ : Hid (TakeW w wr n [.int .i64 n, .slice ba m bc, .slice ha m hc, .slice (some ⟨bG, oG, none⟩) n gc] [.int .i64 0, .slice none 0 0, .slice none 0 0, .slice none 0 0] gM cM (s.had a)) := Lib.hid HJ.out.1
          have HSJ : Hid (w2.heap.size ≤ wr.heap.size) := Lib.hid HJ.out.2.1
          have HFJ : Hid (fitsL s a z j = true) := Lib.hid HJ.out.2.2
          have c1 : wr.cell? ⟨w.heap.size, 1, none⟩ = some (.slice ba m bc) := HTJ.out.ref.bB.cell 1
          have c2 : wr.cell? ⟨w.heap.size, 2, none⟩ = some (.slice ha m hc) := HTJ.out.ref.bB.cell 2
          obtain ⟨bH, oH, cH, uh, eh, dh, hruh, -⟩ := HHA.out.at HTJ.out.ref.chg (fun _ _ h => h) (j := z) (by rw [s.hadL_len]; exact HZM.out)
          rw [s.hadL_at HZM.out] at hruh
          rw [s.hadL_len, HM.out] at eh
          simp only [Value.slice.injEq] at eh
          obtain ⟨rfl, -, rfl⟩ := eh
          have hlr : ((List.range s.n).map (s.vec z)).length = n := by simp [HN.out]
          obtain ⟨bV, oV, cV, rfl, -, hcv⟩ := hruh.form (by rw [hlr]; omega)
          rw [hlr] at hcv dh
          have dv := hcv j hj
          rw [show ((List.range s.n).map (s.vec z)).getD j 0 = s.vec z j by simp [List.getD, HJS.out]] at dv
          obtain ⟨bB, oB, cB, eB, -, hcb⟩ := (HBY.out.keep HTJ.out.ref.chg (fun _ _ h => h)).form (by rw [s.byL_len, HM.out]; omega)
          rw [s.byL_len, HM.out] at eB
          simp only [Value.slice.injEq] at eB
          obtain ⟨rfl, -, rfl⟩ := eB
          have dy := hcb z (by rw [s.byL_len]; exact HZM.out)
          rw [s.byL_at HZM.out] at dy
          have dm : wr.cell? ⟨gM, j, none⟩ = some (.int .i64 (s.had a j)) := (HTJ.out.row.cellAt j (by omega)).trans (by simp [hj])
          obtain ⟨hq, HHQ⟩ : ∃ hq, Hid (s.had a j = hq) := ⟨_, Lib.hid rfl⟩
          obtain ⟨vq, HVQ⟩ : ∃ vq, Hid (s.vec z j = vq) := ⟨_, Lib.hid rfl⟩
          obtain ⟨y, HY⟩ : ∃ y, Hid (s.bys z = y) := ⟨_, Lib.hid rfl⟩
          rw [HHQ.out] at dm
          rw [HVQ.out] at dv
          rw [HY.out] at dy
          have HFIT : Hid (s.fits a z j = if j = y then decide (hq = vq) else decide (vq ≤ hq)) := Lib.hid (by unfold CNet.fits; rw [HY.out, HHQ.out, HVQ.out])
          have HBADF : Hid (s.fits a z j = false → s.takeErr a z = 7) := Lib.hid (fun hf => by
            rw [HTE2.out, if_pos]
            cases hL : fitsL s a z s.n with
            | false => rfl
            | true =>
              have := (fitsL_iff s a z s.n).1 hL j HJS.out
              rw [hf] at this; cases this)
          have HGOODF : Hid (s.fits a z j = true → fitsL s a z (j + 1) = true) := Lib.hid (fun hf => by
            show (fitsL s a z j && s.fits a z j) = true
            rw [HFJ.out, hf]; rfl)
          clear hcv hlr hruh hcb hj hjn HFJ
          by_cases e1 : hq < vq
          · have d1 : decide (hq < vq) = true := decide_eq_true e1
            have HE : Hid (s.takeErr a z = 7) := Lib.hid (HBADF.out (by
              rw [HFIT.out]
              split
              · rw [decide_eq_false_iff_not]; omega
              · rw [decide_eq_false_iff_not]; omega))
            clear e1
            rename_i wr _
            go_wp2_with fail
            refine wp_region_plan (Chg NoF wr) 37 [(0,true),(1,true),(2,true),(3,true),(4,true),(5,true),(6,true),(7,true),(8,true),(9,true),(10,true),(11,true),(12,true),(13,true),(14,true),(15,true),(16,true),(17,true),(18,true),(19,true),(20,true),(21,true),(22,true),(23,true),(24,true),(25,true),(26,true),(27,true),(28,true),(29,true),(30,true),(31,true),(32,true),(33,true),(34,true),(35,true),(36,true)] mixed (by kernel_rfl) (Chg.refl _ _).drew ?_
            simp only [planOps, List.map_cons, List.map_nil, List.getElem?_cons_zero, List.getElem?_cons_succ, Option.getD_some]
            generalize hops : List.toArray _ = ops
            iterate 14 (refine wpPlan_quiet (v := ?_) rfl (fun _ _ _ h => h) (by intro w1 hS; have s0 := hS.cell_some c1 (fun h => h); have s1 := hS.cell_some c2 (fun h => h); have s2 := hS.cell_some dh (fun h => h); have s3 := hS.cell_some dv (fun h => h); have s4 := hS.cell_some dm (fun h => h); have s5 := hS.cell_some dy (fun h => h); clear hS; go_simp; with_reducible rfl) ?_; (simp only [Act.put, List.setIfInBounds_toArray, List.set_cons_zero, List.set_cons_succ]))
            iterate 22 (refine wpPlan_skip (by rw [← hops]; rfl) (fun _ _ _ h => h) ?_; (simp only [Act.put, List.setIfInBounds_toArray, List.set_cons_zero, List.set_cons_succ]))
            (refine wpPlan_quiet (v := ?_) rfl (fun _ _ _ h => h) (by intro w1 hS; clear hS; go_simp; with_reducible rfl) ?_; (simp only [Act.put, List.setIfInBounds_toArray, List.set_cons_zero, List.set_cons_succ]))
            clear hops
            refine wpPlan_nil ?_
            have HTJ2 := Lib.hid (HTJ.out.no ((Chg.refl NoF wr).drew))
            have HSJ2 : Hid (w2.heap.size ≤ wr.drew.heap.size) := Lib.hid HSJ.out
            clear c0 c1 c2 dh dv dm dy HTJ HSJ HJ
            generalize wr.drew = wr2 at *
            have HR := Lib.hid HTJ2.out.ref
            go_wp2_with (first | (refine wpList_plain rfl (fun K hK => wp_loadT aggCast _ rfl w.heap.size [.int .i64 n, .slice (some ⟨bB, oB, none⟩) m bc, .slice (some ⟨bH, oH, none⟩) m hc, .slice (some ⟨bG, oG, none⟩) n gc] (by rfl) HR.out.bB rfl ?_); refine hK _ _ ?_; clear hK) | (refine wpList_plain rfl (fun K hK => wp_storeT aggCast _ _ rfl (w.heap.size + 1) [.int .i64 n, .slice (some ⟨bB, oB, none⟩) m bc, .slice (some ⟨bH, oH, none⟩) m hc, .slice (some ⟨bG, oG, none⟩) n gc] _ (by rfl) (by rfl) rfl HR.out.bR rfl rfl ?_); intro wz hBz hcz; have HR3 := Lib.hid (HR.out.store hBz hcz); have HC12 := Lib.hid hcz; clear hBz hcz; refine hK _ _ ?_; clear hK))
            (try simp only [Exit.inBlock, Exit.then]); refine bodyPost_ret (results_cell2 aggCast rfl _ _ _ _ (by rfl) HR3.out.bR rfl) rfl ?_
            exact BAD.out 7 _ _ _ HE.out (by omega) HR3.out
          · have d1 : decide (hq < vq) = false := decide_eq_false e1
            by_cases e2 : j = y
            · have d2 : ((j : Int) == (y : Int)) = true := by rw [beq_iff_eq]; omega
              by_cases e3 : vq < hq
              · have d3 : decide (vq < hq) = true := decide_eq_true e3
                have HE : Hid (s.takeErr a z = 7) := Lib.hid (HBADF.out (by rw [HFIT.out, if_pos e2, decide_eq_false_iff_not]; omega))
                clear e1 e2 e3
                rename_i wr _
                go_wp2_with fail
                refine wp_region_plan (Chg NoF wr) 37 [(0,true),(1,true),(2,true),(3,true),(4,true),(5,true),(6,true),(7,true),(8,true),(9,true),(10,true),(11,true),(12,true),(13,true),(14,true),(15,true),(16,true),(17,true),(18,true),(19,true),(20,true),(21,true),(22,true),(23,true),(24,true),(25,true),(26,true),(27,true),(28,true),(29,true),(30,true),(31,true),(32,true),(33,true),(34,true),(35,true),(36,true)] mixed (by kernel_rfl) (Chg.refl _ _).drew ?_
                simp only [planOps, List.map_cons, List.map_nil, List.getElem?_cons_zero, List.getElem?_cons_succ, Option.getD_some]
                generalize hops : List.toArray _ = ops
                iterate 14 (refine wpPlan_quiet (v := ?_) rfl (fun _ _ _ h => h) (by intro w1 hS; have s0 := hS.cell_some c1 (fun h => h); have s1 := hS.cell_some c2 (fun h => h); have s2 := hS.cell_some dh (fun h => h); have s3 := hS.cell_some dv (fun h => h); have s4 := hS.cell_some dm (fun h => h); have s5 := hS.cell_some dy (fun h => h); clear hS; go_simp; with_reducible rfl) ?_; (simp only [Act.put, List.setIfInBounds_toArray, List.set_cons_zero, List.set_cons_succ]))
                iterate 7 (refine wpPlan_quietG (v := ?_) (by rw [← hops]; rfl) (fun _ _ _ h => h) (by intro w1 hS; have s0 := hS.cell_some c1 (fun h => h); have s1 := hS.cell_some c2 (fun h => h); have s2 := hS.cell_some dh (fun h => h); have s3 := hS.cell_some dv (fun h => h); have s4 := hS.cell_some dm (fun h => h); have s5 := hS.cell_some dy (fun h => h); clear hS; go_simp; with_reducible rfl) ?_; (simp only [Act.put, List.setIfInBounds_toArray, List.set_cons_zero, List.set_cons_succ]))
                (refine wpPlan_quietG (v := ?_) (by rw [← hops]; rfl) (fun _ _ _ h => h) (by intro w1 hS; clear hS; go_simp; with_reducible rfl) ?_; (simp only [Act.put, List.setIfInBounds_toArray, List.set_cons_zero, List.set_cons_succ]))
                iterate 13 (refine wpPlan_quietG (v := ?_) (by rw [← hops]; rfl) (fun _ _ _ h => h) (by intro w1 hS; have s0 := hS.cell_some c1 (fun h => h); have s1 := hS.cell_some c2 (fun h => h); have s2 := hS.cell_some dh (fun h => h); have s3 := hS.cell_some dv (fun h => h); have s4 := hS.cell_some dm (fun h => h); have s5 := hS.cell_some dy (fun h => h); clear hS; go_simp; with_reducible rfl) ?_; (simp only [Act.put, List.setIfInBounds_toArray, List.set_cons_zero, List.set_cons_succ]))
                (refine wpPlan_quietG (v := ?_) (by rw [← hops]; rfl) (fun _ _ _ h => h) (by intro w1 hS; clear hS; go_simp; with_reducible rfl) ?_; (simp only [Act.put, List.setIfInBounds_toArray, List.set_cons_zero, List.set_cons_succ]))
                (refine wpPlan_quiet (v := ?_) rfl (fun _ _ _ h => h) (by intro w1 hS; clear hS; go_simp; with_reducible rfl) ?_; (simp only [Act.put, List.setIfInBounds_toArray, List.set_cons_zero, List.set_cons_succ]))
                clear hops
                refine wpPlan_nil ?_
                have HTJ2 := Lib.hid (HTJ.out.no ((Chg.refl NoF wr).drew))
                have HSJ2 : Hid (w2.heap.size ≤ wr.drew.heap.size) := Lib.hid HSJ.out
                clear c0 c1 c2 dh dv dm dy HTJ HSJ HJ
                generalize wr.drew = wr2 at *
                have HR := Lib.hid HTJ2.out.ref
                go_wp2_with (first | (refine wpList_plain rfl (fun K hK => wp_loadT aggCast _ rfl w.heap.size [.int .i64 n, .slice (some ⟨bB, oB, none⟩) m bc, .slice (some ⟨bH, oH, none⟩) m hc, .slice (some ⟨bG, oG, none⟩) n gc] (by rfl) HR.out.bB rfl ?_); refine hK _ _ ?_; clear hK) | (refine wpList_plain rfl (fun K hK => wp_storeT aggCast _ _ rfl (w.heap.size + 1) [.int .i64 n, .slice (some ⟨bB, oB, none⟩) m bc, .slice (some ⟨bH, oH, none⟩) m hc, .slice (some ⟨bG, oG, none⟩) n gc] _ (by rfl) (by rfl) rfl HR.out.bR rfl rfl ?_); intro wz hBz hcz; have HR3 := Lib.hid (HR.out.store hBz hcz); have HC12 := Lib.hid hcz; clear hBz hcz; refine hK _ _ ?_; clear hK))
                (try simp only [Exit.inBlock, Exit.then]); refine bodyPost_ret (results_cell2 aggCast rfl _ _ _ _ (by rfl) HR3.out.bR rfl) rfl ?_
                exact BAD.out 7 _ _ _ HE.out (by omega) HR3.out
              · have d3 : decide (vq < hq) = false := decide_eq_false e3
                have HFN : Hid (fitsL s a z (j + 1) = true) := Lib.hid (HGOODF.out (by rw [HFIT.out, if_pos e2, decide_eq_true_eq]; omega))
                clear e1 e2 e3
                rename_i wr _
                go_wp2_with fail
                refine wp_region_plan (Chg NoF wr) 37 [(0,true),(1,true),(2,true),(3,true),(4,true),(5,true),(6,true),(7,true),(8,true),(9,true),(10,true),(11,true),(12,true),(13,true),(14,true),(15,true),(16,true),(17,true),(18,true),(19,true),(20,true),(21,true),(22,true),(23,true),(24,true),(25,true),(26,true),(27,true),(28,true),(29,true),(30,true),(31,true),(32,true),(33,true),(34,true),(35,true),(36,true)] mixed (by kernel_rfl) (Chg.refl _ _).drew ?_
                simp only [planOps, List.map_cons, List.map_nil, List.getElem?_cons_zero, List.getElem?_cons_succ, Option.getD_some]
                generalize hops : List.toArray _ = ops
                iterate 14 (refine wpPlan_quiet (v := ?_) rfl (fun _ _ _ h => h) (by intro w1 hS; have s0 := hS.cell_some c1 (fun h => h); have s1 := hS.cell_some c2 (fun h => h); have s2 := hS.cell_some dh (fun h => h); have s3 := hS.cell_some dv (fun h => h); have s4 := hS.cell_some dm (fun h => h); have s5 := hS.cell_some dy (fun h => h); clear hS; go_simp; with_reducible rfl) ?_; (simp only [Act.put, List.setIfInBounds_toArray, List.set_cons_zero, List.set_cons_succ]))
                iterate 7 (refine wpPlan_quietG (v := ?_) (by rw [← hops]; rfl) (fun _ _ _ h => h) (by intro w1 hS; have s0 := hS.cell_some c1 (fun h => h); have s1 := hS.cell_some c2 (fun h => h); have s2 := hS.cell_some dh (fun h => h); have s3 := hS.cell_some dv (fun h => h); have s4 := hS.cell_some dm (fun h => h); have s5 := hS.cell_some dy (fun h => h); clear hS; go_simp; with_reducible rfl) ?_; (simp only [Act.put, List.setIfInBounds_toArray, List.set_cons_zero, List.set_cons_succ]))
                (refine wpPlan_quietG (v := ?_) (by rw [← hops]; rfl) (fun _ _ _ h => h) (by intro w1 hS; clear hS; go_simp; with_reducible rfl) ?_; (simp only [Act.put, List.setIfInBounds_toArray, List.set_cons_zero, List.set_cons_succ]))
                iterate 13 (refine wpPlan_quietG (v := ?_) (by rw [← hops]; rfl) (fun _ _ _ h => h) (by intro w1 hS; have s0 := hS.cell_some c1 (fun h => h); have s1 := hS.cell_some c2 (fun h => h); have s2 := hS.cell_some dh (fun h => h); have s3 := hS.cell_some dv (fun h => h); have s4 := hS.cell_some dm (fun h => h); have s5 := hS.cell_some dy (fun h => h); clear hS; go_simp; with_reducible rfl) ?_; (simp only [Act.put, List.setIfInBounds_toArray, List.set_cons_zero, List.set_cons_succ]))
                (refine wpPlan_quietG (v := ?_) (by rw [← hops]; rfl) (fun _ _ _ h => h) (by intro w1 hS; clear hS; go_simp; with_reducible rfl) ?_; (simp only [Act.put, List.setIfInBounds_toArray, List.set_cons_zero, List.set_cons_succ]))
                (refine wpPlan_quiet (v := ?_) rfl (fun _ _ _ h => h) (by intro w1 hS; clear hS; go_simp; with_reducible rfl) ?_; (simp only [Act.put, List.setIfInBounds_toArray, List.set_cons_zero, List.set_cons_succ]))
                clear hops
                refine wpPlan_nil ?_
                have HTJ2 := Lib.hid (HTJ.out.no ((Chg.refl NoF wr).drew))
                have HSJ2 : Hid (w2.heap.size ≤ wr.drew.heap.size) := Lib.hid HSJ.out
                clear c0 c1 c2 dh dv dm dy HTJ HSJ HJ
                generalize wr.drew = wr2 at *
                go_wp2
                go_roundw
                case rel => exact ⟨j + 1, HJN.out, by go_num, Lib.hid ⟨HTJ2.out, HSJ2.out, HFN.out⟩⟩
                case measure => have := HJN.out; simp [intOf]; omega
            · have d2 : ((j : Int) == (y : Int)) = false := by rw [beq_eq_false_iff_ne]; omega
              have HFN : Hid (fitsL s a z (j + 1) = true) := Lib.hid (HGOODF.out (by rw [HFIT.out, if_neg e2, decide_eq_true_eq]; omega))
              clear e1 e2
              rename_i wr _
              go_wp2_with fail
              refine wp_region_plan (Chg NoF wr) 37 [(0,true),(1,true),(2,true),(3,true),(4,true),(5,true),(6,true),(7,true),(8,true),(9,true),(10,true),(11,true),(12,true),(13,true),(14,true),(15,true),(16,true),(17,true),(18,true),(19,true),(20,true),(21,true),(22,true),(23,true),(24,true),(25,true),(26,true),(27,true),(28,true),(29,true),(30,true),(31,true),(32,true),(33,true),(34,true),(35,true),(36,true)] mixed (by kernel_rfl) (Chg.refl _ _).drew ?_
              simp only [planOps, List.map_cons, List.map_nil, List.getElem?_cons_zero, List.getElem?_cons_succ, Option.getD_some]
              generalize hops : List.toArray _ = ops
              iterate 14 (refine wpPlan_quiet (v := ?_) rfl (fun _ _ _ h => h) (by intro w1 hS; have s0 := hS.cell_some c1 (fun h => h); have s1 := hS.cell_some c2 (fun h => h); have s2 := hS.cell_some dh (fun h => h); have s3 := hS.cell_some dv (fun h => h); have s4 := hS.cell_some dm (fun h => h); have s5 := hS.cell_some dy (fun h => h); clear hS; go_simp; with_reducible rfl) ?_; (simp only [Act.put, List.setIfInBounds_toArray, List.set_cons_zero, List.set_cons_succ]))
              iterate 7 (refine wpPlan_quietG (v := ?_) (by rw [← hops]; rfl) (fun _ _ _ h => h) (by intro w1 hS; have s0 := hS.cell_some c1 (fun h => h); have s1 := hS.cell_some c2 (fun h => h); have s2 := hS.cell_some dh (fun h => h); have s3 := hS.cell_some dv (fun h => h); have s4 := hS.cell_some dm (fun h => h); have s5 := hS.cell_some dy (fun h => h); clear hS; go_simp; with_reducible rfl) ?_; (simp only [Act.put, List.setIfInBounds_toArray, List.set_cons_zero, List.set_cons_succ]))
              (refine wpPlan_quietG (v := ?_) (by rw [← hops]; rfl) (fun _ _ _ h => h) (by intro w1 hS; clear hS; go_simp; with_reducible rfl) ?_; (simp only [Act.put, List.setIfInBounds_toArray, List.set_cons_zero, List.set_cons_succ]))
              iterate 13 (refine wpPlan_skip (by rw [← hops]; rfl) (fun _ _ _ h => h) ?_; (simp only [Act.put, List.setIfInBounds_toArray, List.set_cons_zero, List.set_cons_succ]))
              (refine wpPlan_quietG (v := ?_) (by rw [← hops]; rfl) (fun _ _ _ h => h) (by intro w1 hS; clear hS; go_simp; with_reducible rfl) ?_; (simp only [Act.put, List.setIfInBounds_toArray, List.set_cons_zero, List.set_cons_succ]))
              (refine wpPlan_quiet (v := ?_) rfl (fun _ _ _ h => h) (by intro w1 hS; clear hS; go_simp; with_reducible rfl) ?_; (simp only [Act.put, List.setIfInBounds_toArray, List.set_cons_zero, List.set_cons_succ]))
              clear hops
              refine wpPlan_nil ?_
              have HTJ2 := Lib.hid (HTJ.out.no ((Chg.refl NoF wr).drew))
              have HSJ2 : Hid (w2.heap.size ≤ wr.drew.heap.size) := Lib.hid HSJ.out
              clear c0 c1 c2 dh dv dm dy HTJ HSJ HJ
              generalize wr.drew = wr2 at *
              go_wp2
              go_roundw
              case rel => exact ⟨j + 1, HJN.out, by go_num, Lib.hid ⟨HTJ2.out, HSJ2.out, HFN.out⟩⟩
              case measure => have := HJN.out; simp [intOf]; omega
        · have hjn' : j = n := by omega
          have hj1 : ¬ (j : Int) < n := by omega
          have HE : Hid (s.takeErr a z = 0) := Lib.hid (by rw [HTE2.out, HN.out, ← hjn', HJ.out.2.2]; rfl)
          have HR9 := Lib.hid HJ.out.1.ref
          have H2S9 : Hid (w2.heap.size ≤ wr.heap.size) := Lib.hid HJ.out.2.1
          have c3 : wr.cell? ⟨w.heap.size, 3, none⟩ = some (.slice (some ⟨bG, oG, none⟩) n gc) := HR9.out.bB.cell 3
          obtain ⟨bG', oG', cG, u, ev, dr, hru, -⟩ := HGO.out.at HR9.out.chg (fun _ _ h => h) (j := a) (by rw [s.gotLs_len]; exact HPS.out)
          rw [s.gotLs_at HPS.out] at hru
          rw [s.gotLs_len, HN.out] at ev
          simp only [Value.slice.injEq, Option.some.injEq, Addr.mk.injEq, and_true] at ev
          obtain ⟨⟨rfl, rfl⟩, -, rfl⟩ := ev
          have HRU := Lib.hid hru
          obtain ⟨ua, uc, rfl⟩ := hru.val
          rw [HGL.out] at dr HRU
          have hsz2 : w2.heap.size = w.heap.size + 2 := HSZ.out
          clear hru HJ hjn' hj hjn
          have HSZ4 := Lib.hid hsz2
          clear hsz2
          rename_i wr _
          go_wp2_with fail
          refine wp_region_plan (Chg NoF wr) 12 [(0,true),(1,true),(2,true),(3,true),(4,true),(5,true),(6,true),(7,true),(8,true),(9,false),(10,false),(11,true),(12,false)] mixed (by kernel_rfl) (Chg.refl _ _).drew ?_
          simp only [planOps, List.map_cons, List.map_nil, List.getElem?_cons_zero, List.getElem?_cons_succ, Option.getD_some]
          generalize hops : List.toArray _ = ops
          iterate 9 (refine wpPlan_quiet (v := ?_) rfl (fun _ _ _ h => h) (by intro w1 hS; have s0 := hS.cell_some c3 (fun h => h); have s1 := hS.cell_some dr (fun h => h); clear hS; go_simp; with_reducible rfl) ?_; (simp only [Act.put, List.setIfInBounds_toArray, List.set_cons_zero, List.set_cons_succ]))
          refine wpPlan_loud rfl (fun K hK => ?_)
          go_simp
          have HGR : Hid (Rd (fun b => (S b ∧ b < w.heap.size) ∨ w2.heap.size ≤ b) wr.drew (.slice ua gl uc) (s.got a)) := Lib.hid ((HRU.out.keep ((Chg.refl NoF wr).drew) (fun _ _ h => h)).mono fun _ _ h => .inl h)
          refine (more_ref (fun b => (S b ∧ b < w.heap.size) ∨ w2.heap.size ≤ b) _ (s.got a) z _ HGR.out (by rw [HGL.out]; have := HGB.out; omega)).mono ?_
          rintro e w9 ⟨v9, rfl, hr9, hc9⟩
          have HL9 : Hid ((s.got a ++ [(z : Int)]).length = gl + 1) := Lib.hid (by simp [HGL.out])
          obtain ⟨a9, c9, e9⟩ := hr9.val
          rw [HL9.out] at e9
          subst e9
          have HC9 : Hid (Chg NoF wr w9) := Lib.hid (((Chg.refl NoF wr).drew).trans hc9)
          have HX9 : Hid (Rd (fun b => (S b ∧ b < w.heap.size) ∨ w2.heap.size ≤ b) w9 (.slice a9 (gl + 1) c9) (s.got a ++ [(z : Int)])) := Lib.hid (hr9.mono (fun b _ hb => by
            have h1 := H2S9.out
            have h2 : wr.drew.heap.size = wr.heap.size := rfl
            rcases hb with hb | hb
            · exact hb
            · right; omega))
          refine hK _ _ (fun _ => HC9.out) ?_
          clear hK K hr9 hc9
          (try simp only [Act.put, List.setIfInBounds_toArray, List.set_cons_zero, List.set_cons_succ])
          refine wpPlan_loud rfl (fun K hK => ?_)
          go_simp
          have HG9 : Hid (Rd2 (fun b => (S b ∧ b < w.heap.size) ∨ w2.heap.size ≤ b) w9 (.slice (some ⟨bG, oG, none⟩) n gc) s.gotLs) := Lib.hid ((HGO.out.keep (HR9.out.chg.trans HC9.out) (fun _ _ h => h)).mono fun _ _ h => .inl h)
          refine (rows_ref (fun b => (S b ∧ b < w.heap.size) ∨ w2.heap.size ≤ b) _ _ s.gotLs a (s.got a ++ [(z : Int)]) w9 HG9.out HX9.out (by rw [HL9.out]; have := HGB.out; omega) (by rw [s.gotLs_len]; exact HPS.out) (by rw [s.gotLs_len, HN.out]; omega)).mono ?_
          rintro e w10 ⟨v10, rfl, hr10, hc10⟩
          have HL10 : Hid ((s.gotLs.set a (s.got a ++ [(z : Int)])).length = n) := Lib.hid (by rw [List.length_set, s.gotLs_len, HN.out])
          obtain ⟨a10, c10, e10⟩ := hr10.val
          rw [HL10.out] at e10
          subst e10
          have HC10 : Hid (Chg NoF wr w10) := Lib.hid (HC9.out.trans hc10)
          have HX10 : Hid (Rd2 (fun b => (S b ∧ b < w.heap.size) ∨ w2.heap.size ≤ b) w10 (.slice a10 n c10) (s.gotLs.set a (s.got a ++ [(z : Int)]))) := Lib.hid (hr10.mono (fun b _ hb => by
            have h1 := H2S9.out
            have h2 := HC9.out.size
            rcases hb with hb | hb
            · exact hb
            · right; omega))
          refine hK _ _ (fun _ => HC10.out) ?_
          clear hK K hr10 hc10
          (try simp only [Act.put, List.setIfInBounds_toArray, List.set_cons_zero, List.set_cons_succ])
          (refine wpPlan_quiet (v := ?_) rfl (fun _ _ _ h => h) (by intro w1 hS; clear hS; go_simp; with_reducible rfl) ?_; (simp only [Act.put, List.setIfInBounds_toArray, List.set_cons_zero, List.set_cons_succ]))
          refine wpPlan_loud rfl (fun K hK => ?_)
          have HR10 := Lib.hid (HR9.out.no HC10.out)
          have s3 : w10.cell? ⟨w.heap.size, 3, none⟩ = some (.slice (some ⟨bG, oG, none⟩) n gc) := HR10.out.bB.cell 3
          have f3 := HR10.out.bB.frozen 3
          go_simp
          refine hK _ _ (fun h => absurd rfl h) ?_
          clear hK K
          clear hops
          refine wpPlan_nil ?_
          have HRE : Hid (RefW w (w10.setCell ⟨w.heap.size, 3, none⟩ (.slice a10 n c10)) w.heap.size (w.heap.size + 1) [.int .i64 n, .slice ba m bc, .slice ha m hc, .slice a10 n c10] [.int .i64 0, .slice none 0 0, .slice none 0 0, .slice none 0 0]) := Lib.hid (HR10.out.setB 3 _)
          have HRCE : Hid (∀ w', Chg (Two w.heap.size (w.heap.size + 1)) (w10.setCell ⟨w.heap.size, 3, none⟩ (.slice a10 n c10)) w' → RC (More S w) w' (.agg #[.int .i64 n, .slice ba m bc, .slice ha m hc, .slice a10 n c10]) (s.take a z)) := Lib.hid (fun w' hcw => by
            have hT : ∀ b, ((S b ∧ b < w.heap.size) ∨ w2.heap.size ≤ b) → More S w b := fun b hb => by
              have := HSZ4.out
              rcases hb with hb | hb
              · exact .inl hb.1
              · right; omega
            have HTT : ∀ b, ((S b ∧ b < w.heap.size) ∨ w2.heap.size ≤ b) → ¬ Two w.heap.size (w.heap.size + 1) b := fun b hb e => by
              have := HSZ4.out
              rcases e with e | e <;> omega
            have hc := (((HR9.out.chg.trans HC10.out).ofNo (F := Two w.heap.size (w.heap.size + 1))).setCell (p := ⟨w.heap.size, 3, none⟩) (.inl (.inl rfl)) (.slice a10 n c10)).trans hcw
            have hcx := ((Chg.refl (Two w.heap.size (w.heap.size + 1)) w10).setCell (p := ⟨w.heap.size, 3, none⟩) (.inl (.inl rfl)) (.slice a10 n c10)).trans hcw
            rw [HTK.out HE.out]
            refine ⟨_, _, _, by rw [show (s.keep a z).n = s.n from rfl, HN.out], ?_, ?_, ?_⟩
            · exact (HBY.out.keep hc (fun b hb => HTT b (.inl hb))).mono fun b _ hb => .inl hb.1
            · exact (HHA.out.keep hc (fun b hb => HTT b (.inl hb))).mono fun b _ hb => .inl hb.1
            · rw [s.gotLs_keep HPS.out]
              exact (HX10.out.keep hcx HTT).mono fun b _ hb => hT b hb)
          clear s3 f3 c3 c0 dr HR9 HR10 HX10 HX9 HC9 HC10 HG9 HGR
          generalize w10.setCell _ _ = w11 at *
          go_wp2_with (first | (refine wpList_plain rfl (fun K hK => wp_loadT aggCast _ rfl w.heap.size [.int .i64 n, .slice ba m bc, .slice ha m hc, .slice a10 n c10] (by rfl) HRE.out.bB rfl ?_); refine hK _ _ ?_; clear hK) | (refine wpList_plain rfl (fun K hK => wp_storeT aggCast _ _ rfl (w.heap.size + 1) [.int .i64 n, .slice ba m bc, .slice ha m hc, .slice a10 n c10] _ (by rfl) (by rfl) rfl HRE.out.bR rfl rfl ?_); intro wz hBz hcz; have HR12 := Lib.hid (HRE.out.store hBz hcz); have HC12 := Lib.hid hcz; clear hBz hcz; refine hK _ _ ?_; clear hK))
          (try simp only [Exit.inBlock, Exit.then]); refine bodyPost_ret (results_cell2 aggCast rfl _ _ _ _ (by rfl) HR12.out.bR rfl) rfl ?_
          refine ⟨_, ?_, HRCE.out _ (HC12.out.mono fun b _ hb => .inr hb), HR12.out.chg⟩
          rw [HE.out]
          rfl

end Go.Proofs.YtiakkhahohhpaaaDoor
