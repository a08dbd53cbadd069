/-
  The document's answers about the net that tells all of all: a note sent.
  Conditions: the answer's lists are read, and tell the program's net.
-/
import Derived.Test.YtiakkhahohhpaaaDoorCsR
import Derived.Test.YtiakkhahohhpaaaDoorRef2
namespace Go.Proofs.YtiakkhahohhpaaaDoor
open Go Go.RowKit

theorem CNet.is_in (s : CNet) (p : Int) : inB p 0 ((s.n : Int) - 1) = s.is p := rfl

def SendRP (S : Nat → Prop) (w : World) (s' : CNet) (k err : Int) (e : Ending) (w' : World) : Prop :=
  ∃ v', e = .returned (.tuple #[v', .int .i64 k, .int .i64 err]) ∧ RC (More S w) w' v' s' ∧ Chg NoF w w'

set_option maxHeartbeats 8000000 in
set_option maxRecDepth 100000 in
theorem send_ref (S : Nat → Prop) (w : World) (v : Value) (s : CNet) (h : RC S w v s) (hs : CInv s s.m) (p : Int) :
    Calls Tryd.prog 17 #[v, .int .i64 p] w (SendRP S w (s.send p) (s.sendVal p) (s.sendErr p)) := by
  have h := h.mono (S' := fun b => S b ∧ b < w.heap.size) (fun b hb hS => ⟨hS, hb⟩)
  have HRC := Lib.hid h
  obtain ⟨vb, vh, vg, rfl, hb, hh, hg⟩ := h
  have HBY := Lib.hid hb
  have HHA := Lib.hid hh
  have HGO := Lib.hid hg
  obtain ⟨ba, bc, rfl⟩ := hb.val
  obtain ⟨ha, hc, rfl⟩ := hh.val
  obtain ⟨ga, gc, rfl⟩ := hg.val
  rw [s.byL_len] at HBY
  rw [s.hadL_len] at HHA
  rw [s.gotLs_len] at HGO
  rw [s.byL_len, s.hadL_len, s.gotLs_len] at HRC ⊢
  have HINV := Lib.hid hs
  obtain ⟨n, HN⟩ : ∃ n, Hid (s.n = n) := ⟨_, Lib.hid rfl⟩
  obtain ⟨m, HM⟩ : ∃ m, Hid (s.m = m) := ⟨_, Lib.hid rfl⟩
  have hn4 := hs.n4
  have hm20 := hs.m20
  rw [HN.out] at HRC HGO hn4 ⊢
  rw [HM.out] at HRC HBY HHA hm20 ⊢
  have BAD : Hid (∀ x (w' : World) (gB gR : Nat), s.sendErr p = x → x ≠ 0 → RefW w w' gB gR [.int .i64 n, .slice ba m bc, .slice ha m hc, .slice ga n gc] [.int .i64 n, .slice ba m bc, .slice ha m hc, .slice ga n gc] →
      SendRP S w (s.send p) (s.sendVal p) (s.sendErr p) (.returned (.tuple #[.agg #[.int .i64 n, .slice ba m bc, .slice ha m hc, .slice ga n gc], .int .i64 0, .int .i64 x])) w') := Lib.hid fun x w' gB gR he hx hR => by
    have h1 : s.send p = s := by unfold CNet.send; rw [if_neg (by rw [he]; exact hx)]
    have h2 : s.sendVal p = 0 := by unfold CNet.sendVal; rw [if_neg (by rw [he]; exact hx)]
    rw [h1, h2, he]
    exact ⟨_, rfl, (HRC.out.keep hR.chg (fun _ _ h => h)).mono fun _ _ h => .inl h.1, hR.chg⟩
  have HIS : Hid (inB p 0 ((n : Int) - 1) = s.is p) := Lib.hid (by rw [← HN.out]; exact s.is_in p)
  have hwn : wrap64 ((n : Int) - 1) = (n : Int) - 1 := IntWalk.wrap64_in _ (by omega)
  clear hb hh hg hs
  cases hip : s.is p with
  | false =>
    have HE : Hid (s.sendErr p = 1) := Lib.hid (by unfold CNet.sendErr; rw [if_pos hip])
    rw [hip] at HIS
    clear hip
    go_enter Tryd.func17, Tryd.ntmps17
    go_wp2_with fail
    refine (ref6In_any _ _ _ _).mono ?_
    rintro e w2 ⟨rfl, rfl⟩
    rw [HIS.out]
    have HR := Lib.hid (RefW.start w [.int .i64 n, .slice ba m bc, .slice ha m hc, .slice ga n gc] [.int .i64 0, .slice none 0 0, .slice none 0 0, .slice none 0 0] 41 41)
    have HSZ : Hid (((w.alloc (.cells #[.int .i64 n, .slice ba m bc, .slice ha m hc, .slice ga n gc] 41)).alloc (.cells #[.int .i64 0, .slice none 0 0, .slice none 0 0, .slice none 0 0] 41)).heap.size = w.heap.size + 2) := Lib.hid (by simp)
    generalize ((w.alloc _).alloc _) = w2 at *
    go_wp2_with (first | (refine wpList_plain rfl (fun K hK => wp_loadT aggCast _ rfl w.heap.size [.int .i64 n, .slice ba m bc, .slice ha m hc, .slice ga n gc] (by rfl) HR.out.bB rfl ?_); refine hK _ _ ?_; clear hK) | (refine wpList_plain rfl (fun K hK => wp_storeT aggCast _ _ rfl (w.heap.size + 1) [.int .i64 n, .slice ba m bc, .slice ha m hc, .slice ga n gc] _ (by rfl) (by rfl) rfl HR.out.bR rfl rfl ?_); intro wz hBz hcz; have HR3 := Lib.hid (HR.out.store hBz hcz); have HC12 := Lib.hid hcz; clear hBz hcz; refine hK _ _ ?_; clear hK))
    (try simp only [Exit.inBlock, Exit.then]); refine bodyPost_ret (results_cell3 aggCast rfl _ _ _ _ (by rfl) HR3.out.bR rfl) rfl ?_
    exact BAD.out 1 _ _ _ HE.out (by omega) HR3.out
  | true =>
    obtain ⟨a, rfl, han⟩ := (s.is_iff p).1 hip
    rw [hip] at HIS
    by_cases h20 : m = 20
    · have HE : Hid (s.sendErr a = 4) := Lib.hid (by unfold CNet.sendErr; rw [if_neg (by rw [hip]; simp), if_pos (by rw [HM.out]; exact h20)])
      have hm1 : (20 : Int) ≤ m := by omega
      clear hip h20
      go_enter Tryd.func17, Tryd.ntmps17
      go_wp2_with fail
      refine (ref6In_any _ _ _ _).mono ?_
      rintro e w2 ⟨rfl, rfl⟩
      rw [HIS.out]
      have HR := Lib.hid (RefW.start w [.int .i64 n, .slice ba m bc, .slice ha m hc, .slice ga n gc] [.int .i64 0, .slice none 0 0, .slice none 0 0, .slice none 0 0] 41 41)
      have HSZ : Hid (((w.alloc (.cells #[.int .i64 n, .slice ba m bc, .slice ha m hc, .slice ga n gc] 41)).alloc (.cells #[.int .i64 0, .slice none 0 0, .slice none 0 0, .slice none 0 0] 41)).heap.size = w.heap.size + 2) := Lib.hid (by simp)
      generalize ((w.alloc _).alloc _) = w2 at *
      have c1 : w2.cell? ⟨w.heap.size, 1, none⟩ = some (.slice ba m bc) := HR.out.bB.cell 1
      go_wp2_with (first | (refine wpList_plain rfl (fun K hK => wp_loadT aggCast _ rfl w.heap.size [.int .i64 n, .slice ba m bc, .slice ha m hc, .slice ga n gc] (by rfl) HR.out.bB rfl ?_); refine hK _ _ ?_; clear hK) | (refine wpList_plain rfl (fun K hK => wp_storeT aggCast _ _ rfl (w.heap.size + 1) [.int .i64 n, .slice ba m bc, .slice ha m hc, .slice ga n gc] _ (by rfl) (by rfl) rfl HR.out.bR rfl rfl ?_); intro wz hBz hcz; have HR3 := Lib.hid (HR.out.store hBz hcz); have HC12 := Lib.hid hcz; clear hBz hcz; refine hK _ _ ?_; clear hK))
      (try simp only [Exit.inBlock, Exit.then]); refine bodyPost_ret (results_cell3 aggCast rfl _ _ _ _ (by rfl) HR3.out.bR rfl) rfl ?_
      exact BAD.out 4 _ _ _ HE.out (by omega) HR3.out
    · have HE : Hid (s.sendErr a = 0) := Lib.hid (by unfold CNet.sendErr; rw [if_neg (by rw [hip]; simp), if_neg (by rw [HM.out]; exact h20)])
      have hm1 : ¬ (20 : Int) ≤ m := by omega
      have hm2 : m < 20 := by omega
      clear hip h20
      rw [HN.out] at han
      go_enter Tryd.func17, Tryd.ntmps17
      go_wp2_with fail
      refine (ref6In_any _ _ _ _).mono ?_
      rintro e w2 ⟨rfl, rfl⟩
      rw [HIS.out]
      have HR := Lib.hid (RefW.start w [.int .i64 n, .slice ba m bc, .slice ha m hc, .slice ga n gc] [.int .i64 0, .slice none 0 0, .slice none 0 0, .slice none 0 0] 41 41)
      have HSZ : Hid (((w.alloc (.cells #[.int .i64 n, .slice ba m bc, .slice ha m hc, .slice ga n gc] 41)).alloc (.cells #[.int .i64 0, .slice none 0 0, .slice none 0 0, .slice none 0 0] 41)).heap.size = w.heap.size + 2) := Lib.hid (by simp)
      generalize ((w.alloc _).alloc _) = w2 at *
      have c1 : w2.cell? ⟨w.heap.size, 1, none⟩ = some (.slice ba m bc) := HR.out.bB.cell 1
      have c2 : w2.cell? ⟨w.heap.size, 2, none⟩ = some (.slice ha m hc) := HR.out.bB.cell 2
      have HH2 : Hid (Rd2 (fun b => S b ∧ b < w.heap.size) w2 (.slice ha m hc) s.hadL) := Lib.hid (HHA.out.keep HR.out.chg (fun _ _ h => h))
      have HHL : Hid (s.hadL.length ≤ 1000) := Lib.hid (by rw [s.hadL_len, HM.out]; omega)
      go_wp2_with (first
        | (at_builtin; refine wpList_appRd2 (S := fun b => S b ∧ b < w.heap.size) rfl _ _ rfl (by rfl) _ s.hadL HH2.out (by rfl) HHL.out ?_; intro vn w3 hown3 hc3; obtain ⟨aH, cH, hvn⟩ := hown3.val; rw [s.hadL_len, HM.out] at hvn; subst hvn; have HO3 := Lib.hid hown3; have HC3 := Lib.hid hc3; have HR3 := Lib.hid (HR.out.no hc3); clear hown3 hc3 c1 c2 HR)
        | (refine wpList_plain rfl (fun K hK => wp_loadT aggCast _ rfl w.heap.size [.int .i64 n, .slice ba m bc, .slice ha m hc, .slice ga n gc] (by rfl) HR3.out.bB rfl ?_); refine hK _ _ ?_; clear hK))
      have HPS : Hid (a < s.n) := Lib.hid (by rw [HN.out]; exact han)
      have HRC3 : Hid (RC (fun b => S b ∧ b < w.heap.size) w3 (.agg #[.int .i64 n, .slice ba m bc, .slice ha m hc, .slice ga n gc]) s) := Lib.hid (HRC.out.keep HR3.out.chg (fun _ _ h => h))
      refine (many_ref _ w3 _ s HRC3.out HINV.out a HPS.out).mono ?_
      rintro e w4 ⟨vr, rfl, hown4, hge4, hc4⟩
      have HR4 := Lib.hid (HR3.out.no hc4)
      have HSZ4 : Hid (w2.heap.size ≤ w3.heap.size ∧ w3.heap.size ≤ w4.heap.size ∧ w2.heap.size = w.heap.size + 2) := Lib.hid ⟨HC3.out.size, hc4.size, HSZ.out⟩
      obtain ⟨ra, rc, rfl⟩ := owns_val hown4
      have e4 : (List.range s.n).map (fun q => Value.int .i64 (s.had a q)) = ((List.range s.n).map (s.had a)).map (.int .i64) := by rw [List.map_map]; rfl
      obtain ⟨RW, HRW⟩ : ∃ RW, Hid ((List.range s.n).map (s.had a) = RW) := ⟨_, Lib.hid rfl⟩
      rw [e4, HRW.out] at hown4
      have HRR : Hid (Rd (fun b => w3.heap.size ≤ b ∧ b < w4.heap.size) w4 (.slice ra s.n rc) RW) := Lib.hid (Rd.ofOwns hown4 (fun b hb => ⟨hge4 b hb, (hown4.lt b hb).2⟩))
      have HBU : Hid (Blk (w4.alloc (.cells #[.slice ra s.n rc] 29)) w4.heap.size [.slice ra s.n rc]) := Lib.hid (Blk.alloc w4 [.slice ra s.n rc] 29)
      rw [HN.out] at HRR HBU ⊢
      have HLN : Hid (RW.length ≤ 9223372036854775807) := Lib.hid (by rw [← HRW.out]; simp; rw [HN.out]; omega)
      have HO4 : Hid (OwnRows (fun b => (S b ∧ b < w.heap.size) ∨ w3.heap.size ≤ b) (w4.alloc (.cells #[.slice ra n rc] 29)) w2.heap.size (.slice aH m cH) s.hadL) := Lib.hid (((HO3.out.mono (S' := fun b => (S b ∧ b < w.heap.size) ∨ w3.heap.size ≤ b) (fun b _ hb => Or.inl hb.1)).keep hc4).keep ((Chg.refl NoF w4).alloc (.cells #[.slice ra n rc] 29)))
      have HRR2 : Hid (Rd (fun b => (S b ∧ b < w.heap.size) ∨ w3.heap.size ≤ b) (w4.alloc (.cells #[.slice ra n rc] 29)) (.slice ra n rc) RW) := Lib.hid ((HRR.out.keep ((Chg.refl NoF w4).alloc (.cells #[.slice ra n rc] 29)) (fun _ _ h => h)).mono (S' := fun b => (S b ∧ b < w.heap.size) ∨ w3.heap.size ≤ b) (fun b _ hb => Or.inr hb.1))
      have HSV : Hid (∀ b, b < (w4.alloc (.cells #[.slice ra n rc] 29)).heap.size → ((S b ∧ b < w.heap.size) ∨ w3.heap.size ≤ b) → (Value.slice aH m cH).ownBlock ≠ some b) := Lib.hid (fun b _ hb e => by
        have h1 := HO3.out.lt b e
        have h2 := HSZ4.out
        omega)
      have HW4 : Hid (w2.heap.size ≤ (w4.alloc (.cells #[.slice ra n rc] 29)).heap.size) := Lib.hid (by have := HSZ4.out; simp; omega)
      have HR5 := Lib.hid (HR4.out.no ((Chg.refl NoF w4).alloc (.cells #[.slice ra n rc] 29)))
      clear hown4 hge4 hc4 e4 HR3 HR4
      have H55 : Hid ((s.hadL ++ [RW]).length = m + 1) := Lib.hid (by simp [s.hadL_len, HM.out])
      go_wp2_with (at_builtin; refine wpList_addRow (S := fun b => (S b ∧ b < w.heap.size) ∨ w3.heap.size ≤ b) rfl _ _ rfl w2.heap.size (.slice aH m cH) s.hadL (by rfl) HO4.out HW4.out HSV.out w4.heap.size _ (.slice ra n rc) RW (by rfl) HBU.out HRR2.out HLN.out HHL.out ?_; intro v5 w5 hr5 hc5; obtain ⟨a5, c5, e5⟩ := hr5.val; rw [H55.out] at e5; subst e5; have HR6 := Lib.hid (HR5.out.past hc5 (by have := HSZ4.out; omega) (by have := HSZ4.out; omega)); have b2 := HR6.out.bB.cell 2; have f2 := HR6.out.bB.frozen 2; have b1 : w5.cell? ⟨w.heap.size, 1, none⟩ = some (.slice ba m bc) := HR6.out.bB.cell 1; have H5 := Lib.hid hr5; have HC5 := Lib.hid hc5; clear hr5 hc5)
      have HR7 : Hid (RefW w (w5.setCell ⟨w.heap.size, 2, none⟩ (.slice a5 (m + 1) c5)) w.heap.size (w.heap.size + 1) [.int .i64 n, .slice ba m bc, .slice a5 (m + 1) c5, .slice ga n gc] [.int .i64 0, .slice none 0 0, .slice none 0 0, .slice none 0 0]) := Lib.hid (HR6.out.setB 2 _)
      have HTT : Hid (∀ b, ((S b ∧ b < w.heap.size) ∨ w2.heap.size ≤ b) → ¬ Two w.heap.size (w.heap.size + 1) b) := Lib.hid (fun b hb e => by
        have := HSZ4.out
        rcases e with e | e <;> omega)
      have H57 : Hid (Rd2 (fun b => (S b ∧ b < w.heap.size) ∨ w2.heap.size ≤ b) (w5.setCell ⟨w.heap.size, 2, none⟩ (.slice a5 (m + 1) c5)) (.slice a5 (m + 1) c5) (s.hadL ++ [RW])) := Lib.hid ((H5.out.mono (S' := fun b => (S b ∧ b < w.heap.size) ∨ w2.heap.size ≤ b) (fun b _ hb => by
        have := HSZ4.out
        rcases hb with (hb | hb) | hb
        · exact .inl hb
        · right; omega
        · exact .inr hb)).keep (setCell_chg w5 ⟨w.heap.size, 2, none⟩ _) (fun b hb e => HTT.out b hb (.inl e)))
      have H2S : Hid (w2.heap.size ≤ (w5.setCell ⟨w.heap.size, 2, none⟩ (.slice a5 (m + 1) c5)).heap.size) := Lib.hid (by have := HC5.out.size; have := HW4.out; simp [World.setCell]; omega)
      clear b1 b2 f2 HR5 HR6 HO3 HO4 HC3 HC5 H5 HBU HRR HRR2 HSV HW4
      generalize w5.setCell _ _ = w6 at *
      have HBY6 : Hid (Rd (fun b => (S b ∧ b < w.heap.size) ∨ w2.heap.size ≤ b) w6 (.slice ba m bc) s.byL) := Lib.hid ((HBY.out.keep HR7.out.chg (fun _ _ h => h)).mono fun _ _ h => .inl h)
      refine (more_ref (fun b => (S b ∧ b < w.heap.size) ∨ w2.heap.size ≤ b) _ s.byL a w6 HBY6.out (by rw [s.byL_len, HM.out]; omega)).mono ?_
      rintro e w7 ⟨v7, rfl, hr7, hc7⟩
      have HL7 : Hid ((s.byL ++ [(a : Int)]).length = m + 1) := Lib.hid (by simp [s.byL_len, HM.out])
      obtain ⟨a7, c7, e7⟩ := hr7.val
      rw [HL7.out] at e7
      subst e7
      have HR8 := Lib.hid (HR7.out.no hc7)
      have H58 := Lib.hid (H57.out.keep hc7 (fun _ _ h => h))
      have HB8 : Hid (Rd (fun b => (S b ∧ b < w.heap.size) ∨ w2.heap.size ≤ b) w7 (.slice a7 (m + 1) c7) (s.byL ++ [(a : Int)])) := Lib.hid (hr7.mono (fun b _ hb => by
        have := H2S.out
        rcases hb with hb | hb
        · exact hb
        · right; omega))
      have H2S7 : Hid (w2.heap.size ≤ w7.heap.size) := Lib.hid (Nat.le_trans H2S.out hc7.size)
      have b1 : w7.cell? ⟨w.heap.size, 1, none⟩ = some (.slice ba m bc) := HR8.out.bB.cell 1
      have f1 := HR8.out.bB.frozen 1
      clear hr7 hc7 HBY6 HR7 H57 H2S
      go_wp2_with fail
      have HR9 : Hid (RefW w (w7.setCell ⟨w.heap.size, 1, none⟩ (.slice a7 (m + 1) c7)) w.heap.size (w.heap.size + 1) [.int .i64 n, .slice a7 (m + 1) c7, .slice a5 (m + 1) c5, .slice ga n gc] [.int .i64 0, .slice none 0 0, .slice none 0 0, .slice none 0 0]) := Lib.hid (HR8.out.setB 1 _)
      have H59 := Lib.hid (H58.out.keep (setCell_chg w7 ⟨w.heap.size, 1, none⟩ (.slice a7 (m + 1) c7)) (fun b hb e => HTT.out b hb (.inl e)))
      have HB9 := Lib.hid (HB8.out.keep (setCell_chg w7 ⟨w.heap.size, 1, none⟩ (.slice a7 (m + 1) c7)) (fun b hb e => HTT.out b hb (.inl e)))
      have H2S9 : Hid (w2.heap.size ≤ (w7.setCell ⟨w.heap.size, 1, none⟩ (.slice a7 (m + 1) c7)).heap.size) := Lib.hid (by have := H2S7.out; simpa [World.setCell] using this)
      clear b1 f1 HR8 H58 HB8 H2S7
      generalize w7.setCell _ _ = w8 at *
      have c3 : w8.cell? ⟨w.heap.size, 3, none⟩ = some (.slice ga n gc) := HR9.out.bB.cell 3
      obtain ⟨bG, oG, cG, u, ev, dr, hru, -⟩ := HGO.out.at HR9.out.chg (fun _ _ h => h) (j := a) (by rw [s.gotLs_len]; exact HPS.out)
      rw [s.gotLs_at HPS.out] at hru
      rw [s.gotLs_len, HN.out] at ev
      simp only [Value.slice.injEq] at ev
      obtain ⟨rfl, -, rfl⟩ := ev
      have HRU := Lib.hid hru
      obtain ⟨ua, uc, rfl⟩ := hru.val
      obtain ⟨gl, HGL⟩ : ∃ gl, Hid ((s.got a).length = gl) := ⟨_, Lib.hid rfl⟩
      have HGB : Hid (gl ≤ 20) := Lib.hid (by rw [← HGL.out]; have := HINV.out.got_le HPS.out; have := HM.out; omega)
      rw [HGL.out] at dr HRU
      have ha1 : (a : Int) < n := by omega
      clear hru
      refine wp_region_plan (Chg NoF w8) 12 [(0,true),(1,true),(2,true),(3,true),(4,true),(5,true),(6,true),(7,true),(8,true),(9,false),(10,false),(11,true),(12,false)] mixed (by kernel_rfl) (Chg.refl _ _).drew ?_
      simp only [planOps, List.map_cons, List.map_nil, List.getElem?_cons_zero, List.getElem?_cons_succ, Option.getD_some]
      generalize hops : List.toArray _ = ops
      iterate 9 (refine wpPlan_quiet (v := ?_) rfl (fun _ _ _ h => h) (by intro w1 hS; have s0 := hS.cell_some c3 (fun h => h); have s1 := hS.cell_some dr (fun h => h); clear hS; go_simp; with_reducible rfl) ?_; (simp only [Act.put, List.setIfInBounds_toArray, List.set_cons_zero, List.set_cons_succ]))
      refine wpPlan_loud rfl (fun K hK => ?_)
      go_simp
      have HGR : Hid (Rd (fun b => (S b ∧ b < w.heap.size) ∨ w2.heap.size ≤ b) w8.drew (.slice ua gl uc) (s.got a)) := Lib.hid ((HRU.out.keep ((Chg.refl NoF w8).drew) (fun _ _ h => h)).mono fun _ _ h => .inl h)
      refine (more_ref (fun b => (S b ∧ b < w.heap.size) ∨ w2.heap.size ≤ b) _ (s.got a) m _ HGR.out (by rw [HGL.out]; have := HGB.out; omega)).mono ?_
      rintro e w9 ⟨v9, rfl, hr9, hc9⟩
      have HL9 : Hid ((s.got a ++ [(m : Int)]).length = gl + 1) := Lib.hid (by simp [HGL.out])
      obtain ⟨a9, c9, e9⟩ := hr9.val
      rw [HL9.out] at e9
      subst e9
      have HC9 : Hid (Chg NoF w8 w9) := Lib.hid (((Chg.refl NoF w8).drew).trans hc9)
      have HX9 : Hid (Rd (fun b => (S b ∧ b < w.heap.size) ∨ w2.heap.size ≤ b) w9 (.slice a9 (gl + 1) c9) (s.got a ++ [(m : Int)])) := Lib.hid (hr9.mono (fun b _ hb => by
        have h1 := H2S9.out
        have h2 : w8.drew.heap.size = w8.heap.size := rfl
        rcases hb with hb | hb
        · exact hb
        · right; omega))
      refine hK _ _ (fun _ => HC9.out) ?_
      clear hK K hr9 hc9
      (try simp only [Act.put, List.setIfInBounds_toArray, List.set_cons_zero, List.set_cons_succ])
      refine wpPlan_loud rfl (fun K hK => ?_)
      go_simp
      have HG9 : Hid (Rd2 (fun b => (S b ∧ b < w.heap.size) ∨ w2.heap.size ≤ b) w9 (.slice (some ⟨bG, oG, none⟩) n gc) s.gotLs) := Lib.hid ((HGO.out.keep (HR9.out.chg.trans HC9.out) (fun _ _ h => h)).mono fun _ _ h => .inl h)
      refine (rows_ref (fun b => (S b ∧ b < w.heap.size) ∨ w2.heap.size ≤ b) _ _ s.gotLs a (s.got a ++ [(m : Int)]) w9 HG9.out HX9.out (by rw [HL9.out]; have := HGB.out; omega) (by rw [s.gotLs_len]; exact HPS.out) (by rw [s.gotLs_len, HN.out]; omega)).mono ?_
      rintro e w10 ⟨v10, rfl, hr10, hc10⟩
      have HL10 : Hid ((s.gotLs.set a (s.got a ++ [(m : Int)])).length = n) := Lib.hid (by rw [List.length_set, s.gotLs_len, HN.out])
      obtain ⟨a10, c10, e10⟩ := hr10.val
      rw [HL10.out] at e10
      subst e10
      have HC10 : Hid (Chg NoF w8 w10) := Lib.hid (HC9.out.trans hc10)
      have HX10 : Hid (Rd2 (fun b => (S b ∧ b < w.heap.size) ∨ w2.heap.size ≤ b) w10 (.slice a10 n c10) (s.gotLs.set a (s.got a ++ [(m : Int)]))) := Lib.hid (hr10.mono (fun b _ hb => by
        have h1 := H2S9.out
        have h2 := HC9.out.size
        rcases hb with hb | hb
        · exact hb
        · right; omega))
      refine hK _ _ (fun _ => HC10.out) ?_
      clear hK K hr10 hc10
      (try simp only [Act.put, List.setIfInBounds_toArray, List.set_cons_zero, List.set_cons_succ])
      (refine wpPlan_quiet (v := ?_) rfl (fun _ _ _ h => h) (by intro w1 hS; clear hS; go_simp; with_reducible rfl) ?_; (simp only [Act.put, List.setIfInBounds_toArray, List.set_cons_zero, List.set_cons_succ]))
      refine wpPlan_loud rfl (fun K hK => ?_)
      have HR10 := Lib.hid (HR9.out.no HC10.out)
      have s3 : w10.cell? ⟨w.heap.size, 3, none⟩ = some (.slice (some ⟨bG, oG, none⟩) n gc) := HR10.out.bB.cell 3
      have f3 := HR10.out.bB.frozen 3
      go_simp
      refine hK _ _ (fun h => absurd rfl h) ?_
      clear hK K
      clear hops
      refine wpPlan_nil ?_
      have HRE : Hid (RefW w (w10.setCell ⟨w.heap.size, 3, none⟩ (.slice a10 n c10)) w.heap.size (w.heap.size + 1) [.int .i64 n, .slice a7 (m + 1) c7, .slice a5 (m + 1) c5, .slice a10 n c10] [.int .i64 0, .slice none 0 0, .slice none 0 0, .slice none 0 0]) := Lib.hid (HR10.out.setB 3 _)
      have HRCE : Hid (∀ w', Chg (Two w.heap.size (w.heap.size + 1)) (w10.setCell ⟨w.heap.size, 3, none⟩ (.slice a10 n c10)) w' → RC (More S w) w' (.agg #[.int .i64 n, .slice a7 (m + 1) c7, .slice a5 (m + 1) c5, .slice a10 n c10]) (s.send a)) := Lib.hid (fun w' hcw => by
        have hT : ∀ b, ((S b ∧ b < w.heap.size) ∨ w2.heap.size ≤ b) → More S w b := fun b hb => by
          have := HSZ4.out
          rcases hb with hb | hb
          · exact .inl hb.1
          · right; omega
        have hc := ((HC10.out.ofNo (F := Two w.heap.size (w.heap.size + 1))).setCell (p := ⟨w.heap.size, 3, none⟩) (.inl (.inl rfl)) (.slice a10 n c10)).trans hcw
        have hcx := ((Chg.refl (Two w.heap.size (w.heap.size + 1)) w10).setCell (p := ⟨w.heap.size, 3, none⟩) (.inl (.inl rfl)) (.slice a10 n c10)).trans hcw
        refine ⟨_, _, _, by rw [CNet.send_n, HN.out], ?_, ?_, ?_⟩
        · rw [s.byL_send HE.out]
          exact (HB9.out.keep hc HTT.out).mono fun b _ hb => hT b hb
        · rw [s.hadL_send HE.out, HRW.out]
          exact (H59.out.keep hc HTT.out).mono fun b _ hb => hT b hb
        · rw [s.gotLs_send HPS.out HE.out, HM.out]
          exact (HX10.out.keep hcx HTT.out).mono fun b _ hb => hT b hb)
      clear s3 f3 c3 dr HR9 HR10 HX10 HX9 HC9 HC10 HG9 HGR H59 HB9
      generalize w10.setCell _ _ = w11 at *
      go_wp2_with (first | (refine wpList_plain rfl (fun K hK => wp_loadT aggCast _ rfl w.heap.size [.int .i64 n, .slice a7 (m + 1) c7, .slice a5 (m + 1) c5, .slice a10 n c10] (by rfl) HRE.out.bB rfl ?_); refine hK _ _ ?_; clear hK) | (refine wpList_plain rfl (fun K hK => wp_storeT aggCast _ _ rfl (w.heap.size + 1) [.int .i64 n, .slice a7 (m + 1) c7, .slice a5 (m + 1) c5, .slice a10 n c10] _ (by rfl) (by rfl) rfl HRE.out.bR rfl rfl ?_); intro wz hBz hcz; have HR12 := Lib.hid (HRE.out.store hBz hcz); have HC12 := Lib.hid hcz; clear hBz hcz; refine hK _ _ ?_; clear hK))
      (try simp only [Exit.inBlock, Exit.then]); refine bodyPost_ret (results_cell3 aggCast rfl _ _ _ _ (by rfl) HR12.out.bR rfl) rfl ?_
      refine ⟨_, ?_, HRCE.out _ (HC12.out.mono fun b _ hb => .inr hb), HR12.out.chg⟩
      rw [show s.sendVal a = (m : Int) by unfold CNet.sendVal; rw [if_pos HE.out, HM.out], HE.out]
      rfl

end Go.Proofs.YtiakkhahohhpaaaDoor
