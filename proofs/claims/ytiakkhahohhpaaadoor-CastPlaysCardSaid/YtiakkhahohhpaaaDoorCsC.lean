/-
  The net that tells all of all: sending and taking.
  Conditions: a net as New made it, behind any deeds.
-/
import Derived.Test.YtiakkhahohhpaaaDoorCsB
namespace Go.Proofs.YtiakkhahohhpaaaDoor
open Go Go.RowKit

def TwoPost (S : Nat → Prop) (w : World) (t : Nat) (x n : Int) (s' : CNet) (e : Ending) (w' : World) : Prop :=
  e = .returned (.tuple #[.int .i64 x, errV n]) ∧ CIn S w' t s' ∧ Chg (fun k => ¬ S k) w w'
def OnePost (S : Nat → Prop) (w : World) (t : Nat) (n : Int) (s' : CNet) (e : Ending) (w' : World) : Prop :=
  e = .returned (errV n) ∧ CIn S w' t s' ∧ Chg (fun k => ¬ S k) w w'

theorem infoNote : (Tryd.prog.info? 56).map (fun i => (i.zero, i.size, i.bytes)) = some (some (.agg #[.int .i64 0, .slice none 0 0]), 2, 32) := by kernel_rfl

set_option maxHeartbeats 4000000 in
set_option maxRecDepth 100000 in
theorem send_any (S : Nat → Prop) (w : World) (t : Nat) (s : CNet) (h : CIn S w t s) (hs : CInv s s.m) (p : Int) :
    Calls Tryd.prog 11 #[.pointer (some ⟨t, 0, none⟩), .int .i64 p] w (TwoPost S w t (s.sendVal p) (s.sendErr p) (s.send p)) := by
  have HIN := Lib.hid h
  have HIS := Lib.hid (is_any S w t s h hs.n1 hs.n4 p)
  have hm := hs.m20
  cases hip : s.is p with
  | false =>
    have hE : Hid (s.sendErr p = 1) := Lib.hid (by unfold CNet.sendErr; rw [if_pos hip])
    have hV : Hid (s.sendVal p = 0 ∧ s.send p = s) := Lib.hid (by unfold CNet.sendVal CNet.send; rw [if_neg (by rw [hE.out]; decide), if_neg (by rw [hE.out]; decide)]; exact ⟨rfl, rfl⟩)
    rw [hip] at HIS
    clear h hs hip
    go_enter Tryd.func11, Tryd.ntmps11
    go_wp2_with fail
    refine HIS.out.mono ?_
    rintro e w' ⟨rfl, rfl⟩
    go_wp2
    go_ret2
    exact ⟨by rw [hE.out, hV.out.1]; rfl, by rw [hV.out.2]; exact HIN.out, Chg.refl _ _⟩
  | true =>
    rw [hip] at HIS
    obtain ⟨a, rfl, ha⟩ := (s.is_iff p).1 hip
    obtain ⟨V, tag, h⟩ := h
    obtain ⟨hrow, c0, hA, aN, cN, vN⟩ := h.notesAt
    by_cases hfull : s.m = 20
    · have hE : Hid (s.sendErr a = 4) := Lib.hid (by unfold CNet.sendErr; rw [if_neg (by rw [hip]; simp), if_pos hfull])
      have hV : Hid (s.sendVal a = 0 ∧ s.send a = s) := Lib.hid (by unfold CNet.sendVal CNet.send; rw [if_neg (by rw [hE.out]; decide), if_neg (by rw [hE.out]; decide)]; exact ⟨rfl, rfl⟩)
      rw [vN, hfull] at c0
      clear h hs hip hrow hA vN hm
      go_enter Tryd.func11, Tryd.ntmps11
      go_wp2_with fail
      refine HIS.out.mono ?_
      rintro e w' ⟨rfl, rfl⟩
      go_wp2
      go_ret2
      exact ⟨by rw [hE.out, hV.out.1]; rfl, by rw [hV.out.2]; exact HIN.out, Chg.refl _ _⟩
    · have hE : Hid (s.sendErr a = 0) := Lib.hid (by unfold CNet.sendErr; rw [if_neg (by rw [hip]; simp), if_neg hfull])
      have hV : Hid (s.sendVal a = s.m ∧ s.send a = (s.note a).keep a s.m) := Lib.hid (by unfold CNet.sendVal CNet.send; rw [if_pos hE.out, if_pos hE.out, Int.toNat_natCast]; exact ⟨rfl, rfl⟩)
      obtain ⟨gH, capH, bH, cH, vH, vB, c1, d1, hcell, hfr, hbt, hgt, hgb, hbS, hcc, hcm⟩ := h.hadAt ha
      have hrowH := h.row (.had a)
      rw [s.rowsH s.n V ha] at hrowH
      have hrowH : w.ownsRow 0 3 1 (V (.had a)) s.n ((List.range s.n).map fun q => .int .i64 (s.had a q)) := hrowH
      rw [vB] at hrowH
      have e4 : ((List.range s.n).map fun q => Value.int .i64 (s.had a q)) = ((List.range s.n).map (s.had a)).map (.int .i64) := by rw [List.map_map]; rfl
      have hlen : ((List.range s.n).map (s.had a)).length = s.n := by simp
      have hn := hs.n4
      have hrowH' := hrowH
      rw [e4] at hrowH'
      have HCL := Lib.hid (clone_any (fun _ => True) (.slice (some ⟨bH, 0, none⟩) s.n cH) ((List.range s.n).map (s.had a)) w.drew (Rd.ofOwns (((Chg.refl NoF w).drew).row hrowH' (fun _ _ h => h)) (fun _ _ => trivial)) (by rw [hlen]; omega))
      rw [hlen, ← e4] at HCL
      have HTS := Lib.hid h.tNotS
      have HNS := Lib.hid (fun b (hb : (V .notes).ownBlock = some b) => (hA b hb).2.1)
      have nt : ¬ (V .notes).ownBlock = some t := fun e => (hA t e).2.2 rfl
      have ngH : ¬ (V .notes).ownBlock = some gH := fun e => Mem.ne h (i := .notes) (j := .hads) (by simp) e (by show (V .hads).ownBlock = _; rw [vH]; rfl)
      have f0 := h.blk.frozen 0
      have tlt := h.blk.lt
      have hz : ((s.m : Int) == 20) = false := by rw [beq_eq_false_iff_ne]; omega
      have HADD := Lib.hid (fun (w1 w2 : World) (hc0 : Chg NoF w w1) => CAt.addNote (w2 := w2) (p := a) h hc0)
      have HV2 : Hid (V .notes = .slice aN s.m cN) := Lib.hid vN
      have HKP := Lib.hid (fun w5 (h5 : CIn S w5 t (s.note a)) => keep_any S w5 t (s.note a) h5 (hs.note ha (by omega)) a s.m ha (by show s.m < s.m + 1; omega))
      have hlt : s.m < 20 := by omega
      rw [vN] at c0 nt ngH hrow
      have HCA := Lib.hid (fun b (hb : (Value.slice aN s.m cN).ownBlock = some b) => HNS.out b (by rw [HV2.out]; exact hb))
      obtain ⟨n, hN⟩ : ∃ n, Hid (s.n = n) := ⟨_, Lib.hid rfl⟩
      obtain ⟨m, hM⟩ : ∃ m, Hid (s.m = m) := ⟨_, Lib.hid rfl⟩
      rw [hN.out] at c1 d1 HCL hn ha HADD
      rw [hM.out] at c0 nt ngH hrow hz HV2 HADD HKP HCA hlt hm
      have ha1 : (a : Int) < n := by omega
      clear h hs hip hA vN vH vB hcell hfr hbt hgt hgb hbS hcc hcm hrowH hrowH' e4 hlen hfull HNS
      go_enter Tryd.func11, Tryd.ntmps11
      go_wp2_with fail
      refine HIS.out.mono ?_
      rintro e w' ⟨rfl, rfl⟩
      go_wp2_with fail
      refine wp_region_plan (Chg (fun b => (Value.slice aN m cN).ownBlock = some b) w) 19 [(0,true),(1,true),(2,true),(3,true),(4,true),(5,true),(6,true),(7,true),(8,true),(9,true),(10,true),(11,true),(12,true),(13,false),(14,true),(15,false),(16,false),(17,true),(18,true),(19,false)] mixed (by kernel_rfl) (Chg.refl _ _).drew ?_
      simp only [planOps, List.map_cons, List.map_nil, List.getElem?_cons_zero, List.getElem?_cons_succ, Option.getD_some]
      generalize hops : List.toArray _ = ops
      iterate 13 (refine wpPlan_quiet (v := ?_) rfl (fun _ _ _ h => h) (by intro w1 hS; have s0 := hS.cell_some c0 nt; have s1 := hS.cell_some c1 nt; have s2 := hS.cell_some d1 ngH; clear hS; go_simp; with_reducible rfl) ?_; (simp only [Act.put, List.setIfInBounds_toArray, List.set_cons_zero, List.set_cons_succ]))
      refine wpPlan_loud rfl (fun K hK => ?_)
      go_simp
      refine HCL.out.mono ?_
      rintro e w3 ⟨v', rfl, own3, hcc⟩
      obtain ⟨va, vc, rfl⟩ := owns_val own3
      have hc3 : Chg NoF w w3 := ((Chg.refl NoF w).drew).trans hcc
      refine hK _ _ (fun _ => hc3.ofNo) ?_
      clear hK K
      (try simp only [Act.put, List.setIfInBounds_toArray, List.set_cons_zero, List.set_cons_succ])
      (refine wpPlan_quiet (v := ?_) rfl (fun _ _ _ h => h) (by intro w1 hS; clear hS; go_simp; with_reducible rfl) ?_; (simp only [Act.put, List.setIfInBounds_toArray, List.set_cons_zero, List.set_cons_succ]))
      refine wpPlan_loud rfl (fun K hK => ?_)
      go_simp
      refine hK _ _ (fun _ => (hc3.alloc _).ofNo) ?_
      clear hK K
      (try simp only [Act.put, List.setIfInBounds_toArray, List.set_cons_zero, List.set_cons_succ])
      refine wpPlan_loud rfl (fun K hK => ?_)
      refine wp_app _ _ 49 rfl 56 (.agg #[.int .i64 0, .slice none 0 0]) 2 32 infoNote Tryd.underlying49 rfl (by decide) (.slice aN m cN) m _ (by rfl) ((hc3.alloc _).row hrow (fun _ _ hf => hf)) w3.heap.size 1 [.int .i64 a, .slice va n vc] (by rfl) ⟨56, (0, 0), heap_alloc_new w3 _⟩ rfl (by simp [Value.oneCell']) (by omega) (by omega) ?_
      intro g4 cap4 w4 hown4 hc4 hat4 hlt4
      have hc5 : Chg (fun b => (Value.slice aN m cN).ownBlock = some b) w w4 := ((hc3.alloc _).ofNo).trans hc4
      refine hK _ _ (fun _ => hc5) ?_
      clear hK K
      (try simp only [Act.put, List.setIfInBounds_toArray, List.set_cons_zero, List.set_cons_succ])
      iterate 2 (refine wpPlan_quiet (v := ?_) rfl (fun _ _ _ h => h) (by intro w1 hS; have s0 := hS.cell_some c0 nt; clear hS; go_simp; with_reducible rfl) ?_; (simp only [Act.put, List.setIfInBounds_toArray, List.set_cons_zero, List.set_cons_succ]))
      refine wpPlan_loud rfl (fun K hK => ?_)
      have s2 := hc5.cell_some c0 nt
      have f2 : w4.frozen? ⟨t, 0, none⟩ = false := by rw [World.frozen?_of_block (hc5.block t tlt nt)]; exact f0
      go_simp
      refine hK _ _ (fun h => absurd rfl h) ?_
      clear hK K
      clear hops
      refine wpPlan_nil ?_
      have hADD := HADD.out _ w4 (hc3.alloc (.cells #[.int .i64 a, .slice va n vc] 56)) (.slice va n vc) (((Chg.refl NoF w3).alloc _).row (owns_zero own3) (fun _ _ hf => hf)) (fun b hb => by
        have := (own3.lt b hb).1
        exact this) (by rw [HV2.out]; exact hc4) (.slice (some ⟨g4, 0, none⟩) (m + 1) cap4) hown4 (fun b hb => by rw [HV2.out]; exact hat4 b hb)
      have HI : Hid (CIn S (w4.setCell ⟨t, 0, none⟩ (.slice (some ⟨g4, 0, none⟩) (m + 1) cap4)) t (s.note a)) := Lib.hid (by
        obtain ⟨tag', hA⟩ := hADD
        exact ⟨_, tag', hA⟩)
      have HC : Hid (Chg (fun k => ¬ S k) w (w4.setCell ⟨t, 0, none⟩ (.slice (some ⟨g4, 0, none⟩) (m + 1) cap4))) := Lib.hid ((hc5.mono fun b _ hb => HCA.out b hb).setCell (.inl HTS.out) _)
      clear hADD hc5 hown4 hat4 hlt4 hc4 hc3 hcc own3 c0 c1 d1 f0 tlt nt ngH hrow s2 f2 HV2 HADD
      generalize w4.setCell ⟨t, 0, none⟩ _ = w5 at *
      go_wp2_with fail
      refine (HKP.out w5 HI.out).mono ?_
      rintro e w6 ⟨rfl, hin6, hc6⟩
      have HI6 := Lib.hid hin6
      have HC6 := Lib.hid (HC.out.trans hc6)
      clear hin6 hc6
      go_wp2
      go_ret2
      exact ⟨by rw [hE.out, hV.out.1, hM.out]; rfl, by rw [hV.out.2, hM.out]; exact HI6.out, HC6.out⟩

set_option maxHeartbeats 4000000 in
set_option maxRecDepth 100000 in
theorem take_any (S : Nat → Prop) (w : World) (t : Nat) (s : CNet) (h : CIn S w t s) (hs : CInv s s.m) (p k : Int) :
    Calls Tryd.prog 12 #[.pointer (some ⟨t, 0, none⟩), .int .i64 p, .int .i64 k] w (OnePost S w t (s.takeErr p k) (s.take p k)) := by
  have HIN := Lib.hid h
  have HIS := Lib.hid (is_any S w t s h hs.n1 hs.n4 p)
  have BAD : Hid (∀ w1 x, Chg NoF w w1 → s.takeErr p k = x → x ≠ 0 → OnePost S w t (s.takeErr p k) (s.take p k) (.returned (.iface 54 (.int .i64 x))) w1) := Lib.hid fun w1 x hc he hx => by
    have ht : s.take p k = s := by unfold CNet.take; rw [if_neg (by rw [he]; exact hx)]
    rw [ht, he]
    exact ⟨by unfold errV; rw [if_neg hx], HIN.out.keep hc, hc.ofNo⟩
  have hm := hs.m20
  have hn := hs.n4
  cases hip : s.is p with
  | false =>
    have hE : Hid (s.takeErr p k = 1) := Lib.hid (by unfold CNet.takeErr; rw [if_pos hip])
    rw [hip] at HIS
    clear h hs hip
    go_enter Tryd.func12, Tryd.ntmps12
    go_wp2_with fail
    refine HIS.out.mono ?_
    rintro e w' ⟨rfl, rfl⟩
    go_wp2
    go_ret
    exact BAD.out _ 1 (Chg.refl _ _) hE.out (by decide)
  | true =>
    rw [hip] at HIS
    have HIP := Lib.hid hip
    obtain ⟨a, rfl, ha⟩ := (s.is_iff p).1 hip
    obtain ⟨V, tag, h⟩ := h
    obtain ⟨-, c0, -, aN, cN, vN⟩ := h.notesAt
    rw [vN] at c0
    cases hik : s.isNote k with
    | false =>
      have hE : Hid (s.takeErr a k = 1) := Lib.hid (by unfold CNet.takeErr; rw [if_neg (by rw [hip]; simp), if_pos hik])
      rw [s.isNote_inB] at hik
      obtain ⟨m, hM⟩ : ∃ m, Hid (s.m = m) := ⟨_, Lib.hid rfl⟩
      rw [hM.out] at c0 hm hik
      have HIK := Lib.hid hik
      clear h hs hip vN hik
      go_enter Tryd.func12, Tryd.ntmps12
      go_wp2_with fail
      refine HIS.out.mono ?_
      rintro e w' ⟨rfl, rfl⟩
      go_wp2_with fail
      refine (within_any _ _ _ _).mono ?_
      rintro e w' ⟨rfl, rfl⟩
      rw [HIK.out]
      go_wp2
      go_ret
      exact BAD.out _ 1 (Chg.refl _ _) hE.out (by decide)
    | true =>
      obtain ⟨b, rfl, hb⟩ := (s.isNote_iff k).1 hik
      have HIKN := Lib.hid hik
      obtain ⟨gG, capG, -, c2, dg, -, -, -, -, hrowG, ⟨a1, cc, hvG⟩, -⟩ := h.gotAt ha
      have hgl := hs.got_le ha
      have HCT := Lib.hid (contains_any (fun _ => True) _ (s.got a) b w (Rd.ofOwns hrowG (fun _ _ => trivial)) (by omega))
      rw [hvG] at dg HCT
      have HERR : Hid (s.takeErr a b = if (s.got a).contains (b : Int) = true then 6 else if fitsL s a b s.n = false then 7 else 0) := Lib.hid (by
        unfold CNet.takeErr; rw [if_neg (by rw [HIP.out]; simp), if_neg (by rw [HIKN.out]; simp), Int.toNat_natCast, Int.toNat_natCast])
      rw [s.isNote_inB] at hik
      cases hct : (s.got a).contains (b : Int) with
      | true =>
        have hE : Hid (s.takeErr a b = 6) := Lib.hid (by rw [HERR.out, if_pos hct])
        rw [hct] at HCT
        obtain ⟨gl, HGL⟩ : ∃ x, Hid ((s.got a).length = x) := ⟨_, Lib.hid rfl⟩
        rw [HGL.out] at dg HCT
        obtain ⟨m, hM⟩ : ∃ m, Hid (s.m = m) := ⟨_, Lib.hid rfl⟩
        obtain ⟨n, hN⟩ : ∃ n, Hid (s.n = n) := ⟨_, Lib.hid rfl⟩
        rw [hM.out] at c0 hm hik
        rw [hN.out] at c2 ha
        have HIK := Lib.hid hik
        have ha1 : (a : Int) < n := by omega
        clear h hs hip vN hik hrowG hvG hct hgl HERR
        go_enter Tryd.func12, Tryd.ntmps12
        go_wp2_with fail
        refine HIS.out.mono ?_
        rintro e w' ⟨rfl, rfl⟩
        go_wp2_with fail
        refine (within_any _ _ _ _).mono ?_
        rintro e w' ⟨rfl, rfl⟩
        rw [HIK.out]
        go_wp2_with fail
        refine HCT.out.mono ?_
        rintro e w' ⟨rfl, rfl⟩
        go_wp2
        go_ret
        exact BAD.out _ 6 (Chg.refl _ _) hE.out (by decide)
      | false =>
        rw [hct] at HCT
        have HERR2 : Hid (s.takeErr a b = if fitsL s a b s.n = false then 7 else 0) := Lib.hid (by rw [HERR.out, if_neg (by rw [hct]; simp)])
        obtain ⟨gl, HGL⟩ : ∃ x, Hid ((s.got a).length = x) := ⟨_, Lib.hid rfl⟩
        rw [HGL.out] at dg HCT
        obtain ⟨gN, capN, bV, cV, vN2, -, c0b, e0, e1, hcellV, -, -⟩ := h.noteAt hb hs.n1
        obtain ⟨gH, capH, bH, cH, -, -, c1, d1, hcellH, -, -, -, -, -, -, -⟩ := h.hadAt ha
        have HKP := Lib.hid (fun w5 (h5 : CIn S w5 t s) => keep_any S w5 t s h5 hs a b ha hb)
        obtain ⟨yi, HYI⟩ : ∃ x : Int, Hid (((s.bys b : Nat) : Int) = x) := ⟨_, Lib.hid rfl⟩
        rw [HYI.out] at e0
        have HCV := Lib.hid hcellV
        have HCH := Lib.hid hcellH
        obtain ⟨m, hM⟩ : ∃ m, Hid (s.m = m) := ⟨_, Lib.hid rfl⟩
        obtain ⟨n, hN⟩ : ∃ n, Hid (s.n = n) := ⟨_, Lib.hid rfl⟩
        rw [hM.out] at c0b hm hik hb
        rw [hN.out] at c2 ha e1 c1 d1 hn HCV HCH HERR2
        have HIK := Lib.hid hik
        have ha1 : (a : Int) < n := by omega
        have hb1 : (b : Int) < m := by omega
        clear h hs hip vN vN2 hik hrowG hvG hct hgl hcellV hcellH HERR c0
        go_enter Tryd.func12, Tryd.ntmps12
        go_wp2_with fail
        refine HIS.out.mono ?_
        rintro e w' ⟨rfl, rfl⟩
        go_wp2_with fail
        refine (within_any _ _ _ _).mono ?_
        rintro e w' ⟨rfl, rfl⟩
        rw [HIK.out]
        go_wp2_with fail
        refine HCT.out.mono ?_
        rintro e w' ⟨rfl, rfl⟩
        have hW : Hid (Chg NoF w (w.alloc (Obj.cells #[.int .i64 yi, .slice (some ⟨bV, 0, none⟩) n cV] 56))) := Lib.hid ((Chg.refl _ w).alloc _)
        have k0 : Hid ((w.alloc (Obj.cells #[.int .i64 yi, .slice (some ⟨bV, 0, none⟩) n cV] 56)).cell? ⟨w.heap.size, 0, none⟩ = some (.int .i64 yi)) := Lib.hid (by simp)
        go_wp2_with fail
        clear c0b c2 dg e0 e1
        have HC1 := Lib.hid (hW.out.cell_some c1 (fun h => h))
        have HD1 := Lib.hid (hW.out.cell_some d1 (fun h => h))
        clear c1 d1
        generalize w.alloc (Obj.cells #[.int .i64 yi, .slice (some ⟨bV, 0, none⟩) n cV] 56) = w1 at *
        generalize hg7 : w.heap.size = g7 at *
        clear hg7
        go_loopw [46, 8, 9] (fun i _ _ wr => ∃ j : Nat, j ≤ n ∧ i = .int .i64 j ∧ Hid (fitsL s a b j = true) ∧ Hid (w1 = wr)) (fun i _ _ _ => n - (intOf i).toNat)
        case atStart => exact ⟨0, Nat.zero_le _, rfl, Lib.hid rfl, Lib.hid rfl⟩
        case round =>
          obtain ⟨j, hjn, rfl, HFT, HWE⟩ := hrel
          have ew := HWE.out
          subst ew
          by_cases hj : j < n
          · have hj1 : (j : Int) < n := by omega
            have HJ : Hid (j + 1 ≤ n) := Lib.hid hj
            have eV := hW.out.cell_some (HCV.out j hj) (fun h => h)
            have eH := hW.out.cell_some (HCH.out j hj) (fun h => h)
            obtain ⟨vx, HVX⟩ : ∃ x, Hid (s.vec b j = x) := ⟨_, Lib.hid rfl⟩
            obtain ⟨hx, HHX⟩ : ∃ x, Hid (s.had a j = x) := ⟨_, Lib.hid rfl⟩
            rw [HVX.out] at eV
            rw [HHX.out] at eH
            have c1 := HC1.out
            have d1 := HD1.out
            have kz := k0.out
            have HBADJ : Hid (s.fits a b j = false → s.takeErr a b = 7) := Lib.hid fun h => by
              rw [HERR2.out, if_pos]
              rw [← Bool.not_eq_true, fitsL_iff]
              intro hh; rw [hh j hj] at h; cases h
            have HNXT : Hid (s.fits a b j = true → fitsL s a b (j + 1) = true) := Lib.hid fun h => by rw [fitsL, HFT.out, h]; rfl
            have HFD : Hid (s.fits a b j = if (j : Int) = yi then decide (hx = vx) else decide (vx ≤ hx)) := Lib.hid (by
              unfold CNet.fits
              rw [HVX.out, HHX.out, ← HYI.out]
              by_cases e : j = s.bys b
              · rw [if_pos e, if_pos (by omega)]
              · rw [if_neg e, if_neg (by omega)])
            clear hjn hj HFT
            by_cases hjy : (j : Int) = yi
            · have hb1 : ((j : Int) != yi) = false := by rw [hjy]; simp
              have hb2 : ((j : Int) == yi) = true := by rw [hjy]; simp
              by_cases hxv : hx = vx
              · have hF := HNXT.out (by rw [HFD.out, if_pos hjy]; exact decide_eq_true hxv)
                have HF := Lib.hid hF
                have hb3 : (hx != vx) = false := by rw [hxv]; simp
                clear hjy hxv hF
                go_wp2
                go_roundw
                case rel => exact ⟨j + 1, HJ.out, by go_num, HF, by first | exact HWE | exact Lib.hid trivial⟩
                case measure => have := HJ.out; simp [intOf]; omega
              · have hB := HBADJ.out (by rw [HFD.out, if_pos hjy]; exact decide_eq_false hxv)
                have HB := Lib.hid (BAD.out w1 7 hW.out hB (by decide))
                have hb3 : (hx != vx) = true := by simp [hxv]
                clear hjy hxv hB
                go_wp2
                go_ret
                exact HB.out
            · have hb1 : ((j : Int) != yi) = true := by simp [hjy]
              have hb2 : ((j : Int) == yi) = false := by simp [hjy]
              by_cases hxv : vx ≤ hx
              · have hF := HNXT.out (by rw [HFD.out, if_neg hjy]; exact decide_eq_true hxv)
                have HF := Lib.hid hF
                have hb3 : ¬ hx < vx := by omega
                clear hjy hxv hF
                go_wp2
                go_roundw
                case rel => exact ⟨j + 1, HJ.out, by go_num, HF, by first | exact HWE | exact Lib.hid trivial⟩
                case measure => have := HJ.out; simp [intOf]; omega
              · have hB := HBADJ.out (by rw [HFD.out, if_neg hjy]; exact decide_eq_false hxv)
                have HB := Lib.hid (BAD.out w1 7 hW.out hB (by decide))
                have hb3 : hx < vx := by omega
                clear hjy hxv hB
                go_wp2
                go_ret
                exact HB.out
          · obtain rfl : j = n := by omega
            have hj1 : ¬ (j : Int) < j := by omega
            have hE : Hid (s.takeErr a b = 0) := Lib.hid (by rw [HERR2.out, if_neg (by rw [HFT.out]; simp)])
            have hT : Hid (s.take a b = s.keep a b) := Lib.hid (by unfold CNet.take; rw [if_pos hE.out, Int.toNat_natCast, Int.toNat_natCast])
            have HK2 := Lib.hid (HKP.out w1 (HIN.out.keep hW.out))
            clear hj hjn
            go_wp2_with fail
            refine HK2.out.mono ?_
            rintro e w6 ⟨rfl, hin6, hc6⟩
            have HI6 := Lib.hid hin6
            have HC6 := Lib.hid ((hW.out.ofNo).trans hc6)
            clear hin6 hc6
            go_wp2
            go_ret
            exact ⟨by rw [hE.out]; rfl, by rw [hT.out]; exact HI6.out, HC6.out⟩

end Go.Proofs.YtiakkhahohhpaaaDoor
