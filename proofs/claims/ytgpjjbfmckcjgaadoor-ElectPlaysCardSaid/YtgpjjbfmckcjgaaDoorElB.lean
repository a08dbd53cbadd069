/-
  The ring that chooses: hearing a name, and what is told of it.
  Conditions: a ring as New made it; fewer than 1000000 names were sent.
-/
import Derived.Test.YtgpjjbfmckcjgaaDoorElA
import Derived.Test.YtgpjjbfmckcjgaaDoorLaws
namespace Go.Proofs.YtgpjjbfmckcjgaaDoor
open Go Go.RowKit

def StepPost (S : Nat → Prop) (w : World) (t : Nat) (s : Ring) (i : Int) (e : Ending) (w' : World) : Prop :=
  e = .returned (errV (s.stErr i)) ∧ RingIn S w' t (s.step i) ∧ Chg (fun k => ¬ S k) w w'

theorem Ring.Bnd.pop {s : Ring} (h : s.Bnd) (hl : s.ways.length = s.names.length) {i : Nat} (hi : i < s.names.length) : (s.pop i).Bnd := by
  intro j
  show ((s.ways.set _ _).getD j []).length ≤ s.sent
  rw [getD_setL (by omega)]
  split
  · have := h i; unfold Ring.way; rw [List.length_tail]; omega
  · exact h j

set_option maxHeartbeats 4000000 in
set_option maxRecDepth 100000 in
theorem step_any (S : Nat → Prop) (w : World) (t : Nat) (s : Ring) (h : RingIn S w t s) (i : Int) (hsent : (s.sent : Int) < 1000000) :
    Calls Tryd.prog 11 #[.pointer (some ⟨t, 0, none⟩), .int .i64 i] w (StepPost S w t s i) := by
  have HIN := Lib.hid h
  have HIS := Lib.hid (is_any S w t s h i)
  cases hh : s.has i with
  | false =>
    have hE : Hid (s.stErr i = 1) := Lib.hid (by unfold Ring.stErr; rw [if_pos hh])
    have hR : Hid (s.step i = s) := Lib.hid (by unfold Ring.step; rw [hE.out]; rfl)
    rw [hh] at HIS
    clear h hh
    go_enter Tryd.func11, Tryd.ntmps11
    go_wp2_with (go_at_call 31; refine HIS.out.mono ?_; rintro e w' ⟨rfl, rfl⟩)
    go_ret
    exact ⟨by rw [hE.out]; rfl, by rw [hR.out]; exact HIN.out, Chg.refl _ _⟩
  | true =>
    rw [hh] at HIS
    have hib : 0 ≤ i ∧ i ≤ (s.names.length : Int) - 1 := by simpa [Ring.has, inB] using hh
    obtain ⟨k, rfl⟩ := Int.eq_ofNat_of_zero_le hib.1
    obtain ⟨hSlt, hBnd, N, B, W, M, tag, h⟩ := h
    obtain ⟨hl1, hl2, hl3, hl4⟩ := h.lens
    obtain ⟨gN, cN, rfl, tN, ltN, _, _, _, hNc, hNf⟩ := h.names.form' hl3
    obtain ⟨gB, cB, rfl, tB, ltB, _, _, _, hBc, hBf⟩ := h.begun.form' hl3
    obtain ⟨gW, cW, rfl, tW, ltW, _, _, _, hWc, hWf⟩ := h.ways.form' hl3
    have c0 : w.cell? ⟨t, 0, none⟩ = some (.slice (some ⟨gN, 0, none⟩) s.names.length cN) := h.blk.cell 0
    have c1 : w.cell? ⟨t, 1, none⟩ = some (.slice (some ⟨gB, 0, none⟩) s.names.length cB) := h.blk.cell 1
    have c2 : w.cell? ⟨t, 2, none⟩ = some (.slice (some ⟨gW, 0, none⟩) s.names.length cW) := h.blk.cell 2
    have hk : k < s.names.length := by omega
    have cM : w.cell? ⟨gW, k, none⟩ = some (M k) := by rw [hWc k (by omega)]; simp [hk]
    obtain ⟨l, HL⟩ : ∃ l, Hid (s.way k = l) := ⟨_, Lib.hid rfl⟩
    have hM : Own w tag (5 + k) 3 1 (M k) l.length (l.map (.int .i64)) := HL.out ▸ h.msgs k hk
    cases l with
    | nil =>
      have hE : Hid (s.stErr k = 5) := Lib.hid (by unfold Ring.stErr; rw [if_neg (by simp [hh]), if_pos (by simpa using HL.out)])
      have hR : Hid (s.step k = s) := Lib.hid (by unfold Ring.step; rw [hE.out]; rfl)
      have hMv : ∃ a c, M k = .slice a 0 c := by
        rcases hM.form with ⟨h1, _, _⟩ | ⟨g, cap, h1, _⟩
        · exact ⟨_, _, h1⟩
        · exact ⟨_, _, h1⟩
      obtain ⟨a, c, hMv⟩ := hMv
      rw [hMv] at cM
      obtain ⟨n, hN⟩ : ∃ n, Hid (s.names.length = n) := ⟨_, Lib.hid rfl⟩
      rw [hN.out] at c0 c1 c2 hl3 hl4 hk
      have hk1 : (k : Int) < n := by omega
      clear hNc hNf hBc hBf hWc hWf hl1 hl2 hBnd hSlt h hh hib hM hMv
      go_enter Tryd.func11, Tryd.ntmps11
      go_wp2_with (go_at_call 31; refine HIS.out.mono ?_; rintro e w' ⟨rfl, rfl⟩)
      go_ret
      exact ⟨by rw [hE.out]; rfl, by rw [hR.out]; exact HIN.out, Chg.refl _ _⟩
    | cons x l =>
      have hE : Hid (s.stErr k = 0) := Lib.hid (by unfold Ring.stErr; rw [if_neg (by simp [hh]), if_neg (by simp [HL.out])])
      have hR : Hid (s.step k = (s.pop k).hear k x) := Lib.hid (by unfold Ring.step; rw [hE.out]; simp [HL.out])
      obtain ⟨g, cap, hMv, tG, ltG, hcap, hcmax, _, hGc, hGf⟩ := hM.form' (by simp)
      have HCM := Lib.hid hcmax
      have cM2 := cM
      rw [hMv] at cM
      have cX : w.cell? ⟨g, 0, none⟩ = some (.int .i64 x) := by rw [hGc 0 (by simp)]; rfl
      have hcap1 : l.length + 1 ≤ cap := hcap
      obtain ⟨n, hN⟩ : ∃ n, Hid (s.names.length = n) := ⟨_, Lib.hid rfl⟩
      rw [hN.out] at c0 c1 c2 hl3 hl4 hk
      have hk1 : (k : Int) < n := by omega
      have hlb : (l.length : Int) < 1000000 := by have := hBnd k; have h2 := HL.out; unfold Ring.way at h2; rw [h2] at this; simp at this; omega
      have HH := Lib.hid h
      have HX := Lib.hid hib
      have HM := Lib.hid hM
      have HW := Lib.hid hWf
      have hlen : (x :: l).length = l.length + 1 := rfl
      rw [hlen] at cM
      obtain ⟨m, hm⟩ : ∃ m, Hid (l.length = m) := ⟨_, Lib.hid rfl⟩
      rw [hm.out] at cM hlb hcap1
      have hm1 : ((m : Int) + 1 == 0) = false := by rw [beq_eq_false_iff_ne]; omega
      have HMV := Lib.hid hMv
      have CM2 := Lib.hid cM2
      have HSlt := Lib.hid hSlt
      have HBnd := Lib.hid hBnd
      clear hNc hNf hBc hBf hWc hWf hl1 hl2 h hh hib hM hGc hGf hlen hcap hMv cM2 hSlt hBnd
      go_enter Tryd.func11, Tryd.ntmps11
      go_wp2_with (go_at_call 31; refine HIS.out.mono ?_; rintro e w' ⟨rfl, rfl⟩)
      refine wp_region_plan (Chg NoF w) 15 [(0,true),(1,true),(2,true),(3,true),(4,true),(5,true),(6,true),(7,true),(8,true),(9,true),(10,true),(11,true),(12,true),(13,false),(14,true),(15,false)] mixed (by kernel_rfl) (Chg.refl _ w).drew ?_
      simp only [planOps, List.map_cons, List.map_nil, List.getElem?_cons_zero, List.getElem?_cons_succ, Option.getD_some]
      generalize List.toArray _ = ops
      iterate 12 (refine wpPlan_quiet (v := ?_) rfl (fun _ _ _ h => h) (by intro w1 hS; have s2 := hS.cell_some c2 (fun h => h); have s3 := hS.cell_some cM (fun h => h); clear hS; go_simp; with_reducible rfl) ?_; (simp only [Act.put, List.setIfInBounds_toArray, List.set_cons_zero, List.set_cons_succ]))
      have hm2 : (1 : Int) ≤ (m : Int) + 1 := by omega
      obtain ⟨off, hoff, hoff2⟩ := tail_off g 1 cap m hcap1
      have HOFF := Lib.hid hoff2
      clear hoff2
      refine wpPlan_quiet (v := ?_) rfl (fun _ _ _ h => h) (by intro w1 hS; go_simp; with_reducible rfl) ?_; (simp only [Act.put, List.setIfInBounds_toArray, List.set_cons_zero, List.set_cons_succ])
      have hrd : Rd (fun _ => True) w.drew (.slice (some ⟨g, off, none⟩) m (cap - 1)) l := (Rd.tail (HMV.out ▸ HM.out) hm.out HOFF.out trivial _ (by omega)).keep ((Chg.refl NoF w).drew) (fun _ _ h => h)
      have HCL := Lib.hid (clone_any _ _ l w.drew hrd (by rw [hm.out]; omega))
      rw [hm.out] at HCL
      clear hrd
      refine wpPlan_loud rfl (fun K hK => ?_)
      go_simp
      refine HCL.out.mono ?_
      rintro e w1 ⟨v', rfl, hown, hcc⟩
      obtain ⟨va, vc, rfl⟩ := owns_val hown
      have hc1 : Chg NoF w w1 := ((Chg.refl NoF w).drew).trans hcc
      refine hK _ _ (fun _ => hc1) ?_
      clear hK K HCL
      (try simp only [Act.put, List.setIfInBounds_toArray, List.set_cons_zero, List.set_cons_succ])
      refine wpPlan_quiet (v := ?_) rfl (fun _ _ _ h => h) (by intro w1 hS; have s2 := hS.cell_some c2 (fun h => h); have s3 := hS.cell_some cM (fun h => h); clear hS; go_simp; with_reducible rfl) ?_; (simp only [Act.put, List.setIfInBounds_toArray, List.set_cons_zero, List.set_cons_succ])
      refine wpPlan_loud rfl (fun K hK => ?_)
      have s2 := hc1.cell_some cM (fun h => h)
      have f2 : w1.frozen? ⟨gW, k, none⟩ = false := by rw [World.frozen?_of_block (hc1.block gW ltW (fun h => h))]; exact HW.out k
      go_simp
      refine hK _ _ (fun h => absurd rfl h) ?_
      clear hK K
      refine wpPlan_nil ?_
      have hR2 := HH.out.setWay (by rw [hN.out]; exact hk) (hc1.mono fun _ _ => False.elim) (.slice va m vc) l (by rw [hm.out]; exact owns_zero hown) (fun q hq => .inr (hown.lt q hq).1) HSlt.out
      have hpop : ({ s with ways := s.ways.set k l } : Ring) = s.pop k := by unfold Ring.pop; rw [HL.out]; rfl
      rw [hpop] at hR2
      have hc2 : Chg (fun k => ¬ S k) w (w1.setCell ⟨gW, k, none⟩ (.slice va m vc)) := (hc1.mono fun _ _ => False.elim).setCell (.inl (HH.out.chg (by show tag gW ≠ 0; omega))) _
      have hlens := HH.out.lens
      have HBP : Hid (s.pop k).Bnd := Lib.hid (HBnd.out.pop hlens.2.1 (by rw [hN.out]; exact hk))
      have hnames : (s.pop k).names = s.names := rfl
      have hnlen : s.names.length = n := hN.out
      have hbegun : (s.pop k).begun = s.begun := rfl
      have hbl := hlens.1
      clear s2 f2 hown hcc hc1 hlens hpop c0 c1 c2 cM cX HCM hcmax hlb HMV CM2 HM hcap1 hm1 hm2 hoff HOFF
      generalize w1.setCell ⟨gW, k, none⟩ _ = w2 at *
      have hin2 : RingIn S w2 t (s.pop k) := ⟨fun b hb => by have := HSlt.out b hb; have := hc2.size; omega, HBP.out, _, _, _, _, _, hR2⟩
      have HIN2 := Lib.hid hin2
      have HC2 := Lib.hid hc2
      have HR2 := Lib.hid hR2
      have c0 : w2.cell? ⟨t, 0, none⟩ = some (.slice (some ⟨gN, 0, none⟩) n cN) := by rw [← hnlen]; exact hR2.blk.cell 0
      have c1 : w2.cell? ⟨t, 1, none⟩ = some (.slice (some ⟨gB, 0, none⟩) n cB) := by rw [← hnlen]; exact hR2.blk.cell 1
      have c3 : w2.cell? ⟨t, 3, none⟩ = some (.int .i64 (s.pop k).leader) := hR2.blk.cell 3
      have f3 : w2.frozen? ⟨t, 3, none⟩ = false := hR2.blk.frozen 3
      obtain ⟨nm, hNM⟩ : ∃ nm, Hid (s.name k = nm) := ⟨_, Lib.hid rfl⟩
      obtain ⟨bg, hBG⟩ : ∃ bg, Hid (s.begun.getD k false = bg) := ⟨_, Lib.hid rfl⟩
      have cN1 : w2.cell? ⟨gN, k, none⟩ = some (.int .i64 nm) := by
        rw [hR2.names.row.cellAt k (by omega), hnames, ← hNM.out]; simp [Ring.name, List.getD, hnlen, hk]
      have cB1 : w2.cell? ⟨gB, k, none⟩ = some (.bool bg) := by
        rw [hR2.begun.row.cellAt k (by omega), hbegun, ← hBG.out]; simp [List.getD, hbl, hnlen, hk]
      have fB1 : w2.frozen? ⟨gB, k, none⟩ = false := hR2.begun.row.frozenAt k
      have hSB := hR2.setBegun k true
      have HMK : Hid (RingIn S (w2.setCell ⟨gB, k, none⟩ (.bool true)) t ((s.pop k).mark k) ∧ Chg (fun k => ¬ S k) w (w2.setCell ⟨gB, k, none⟩ (.bool true)) ∧
          (w2.setCell ⟨gB, k, none⟩ (.bool true)).cell? ⟨t, 0, none⟩ = some (.slice (some ⟨gN, 0, none⟩) n cN) ∧ (w2.setCell ⟨gB, k, none⟩ (.bool true)).cell? ⟨gN, k, none⟩ = some (.int .i64 nm)) := by
        have hcc : Chg (fun k => k = gB) w2 (w2.setCell ⟨gB, k, none⟩ (.bool true)) := setCell_chg w2 ⟨gB, k, none⟩ _
        have htB : ¬ t = gB := fun e => by have h1 := HH.out.ht; rw [e] at h1; omega
        have hNB : ¬ gN = gB := fun e => by rw [e] at tN; omega
        exact Lib.hid ⟨⟨fun b hb => by have := HSlt.out b hb; have := hc2.size; simp [World.setCell]; omega, HBP.out, _, _, _, _, _, hSB⟩, hc2.setCell (.inl (HH.out.chg (by show tag gB ≠ 0; omega))) _, hcc.cell_some c0 htB, hcc.cell_some cN1 hNB⟩
      clear hin2 hR2 hc2 hnames hnlen hbegun hbl hSB
      by_cases hxe : x = nm
      · subst hxe
        have hxx : (x == x) = true := by simp
        go_wp2
        go_ret
        refine ⟨by rw [hE.out]; rfl, ?_, HC2.out.setCell (.inl (HH.out.chg (by show tag t ≠ 0; rw [HH.out.ht]; omega))) _⟩
        rw [hR.out]
        unfold Ring.hear
        rw [if_pos (show x = (s.pop k).name k from hNM.out.symm)]
        exact ⟨fun b hb => by have := HSlt.out b hb; have := HC2.out.size; simp [World.setCell]; omega, HBP.out, _, _, _, _, _, HR2.out.set 3 _ _ rfl rfl rfl rfl⟩
      · have hxx : (x == nm) = false := by simpa using hxe
        have HXE := Lib.hid hxe
        by_cases hgt : nm < x
        · have HSD := Lib.hid (send_raw S _ t ((s.pop k).mark k) HMK.out.1 k x (by rw [← hN.out] at hk; exact hk) hsent)
          have hR3 : Hid (s.step k = ((s.pop k).mark k).send k x) := Lib.hid (by
            rw [hR.out]; unfold Ring.hear
            rw [if_neg (show ¬ x = (s.pop k).name k from fun e => HXE.out (e.trans hNM.out)), if_pos (show (s.pop k).name k < x by rw [show (s.pop k).name k = nm from hNM.out]; exact hgt)])
          clear hxe
          go_wp2_with fail
          refine HSD.out.mono ?_
          rintro e w3 ⟨rfl, hin3, hc3⟩
          go_wp2
          go_ret
          exact ⟨by rw [hE.out]; rfl, by rw [hR3.out]; exact hin3, HMK.out.2.1.trans hc3⟩
        · have HGT := Lib.hid hgt
          cases bg with
          | true =>
            have hR3 : Hid (s.step k = s.pop k) := Lib.hid (by
              rw [hR.out]; unfold Ring.hear
              rw [if_neg (show ¬ x = (s.pop k).name k from fun e => HXE.out (e.trans hNM.out)), if_neg (show ¬ (s.pop k).name k < x by rw [show (s.pop k).name k = nm from hNM.out]; exact hgt), if_neg (show ¬ (s.pop k).begun.getD k false = false by rw [show (s.pop k).begun.getD k false = true from hBG.out]; simp)])
            clear hxe
            go_wp2
            go_ret
            exact ⟨by rw [hE.out]; rfl, by rw [hR3.out]; exact HIN2.out, HC2.out⟩
          | false =>
            have HSD := Lib.hid (send_raw S _ t ((s.pop k).mark k) HMK.out.1 k nm (by rw [← hN.out] at hk; exact hk) hsent)
            have hR3 : Hid (s.step k = ((s.pop k).mark k).send k nm) := Lib.hid (by
              rw [hR.out]; unfold Ring.hear
              rw [if_neg (show ¬ x = (s.pop k).name k from fun e => HXE.out (e.trans hNM.out)), if_neg (show ¬ (s.pop k).name k < x by rw [show (s.pop k).name k = nm from hNM.out]; exact hgt), if_pos (show (s.pop k).begun.getD k false = false from hBG.out), show (s.pop k).name k = nm from hNM.out])
            obtain ⟨d1, d2⟩ := HMK.out.2.2
            clear hxe
            go_wp2_with fail
            refine HSD.out.mono ?_
            rintro e w3 ⟨rfl, hin3, hc3⟩
            go_wp2
            go_ret
            exact ⟨by rw [hE.out]; rfl, by rw [hR3.out]; exact hin3, HMK.out.2.1.trans hc3⟩

end Go.Proofs.YtgpjjbfmckcjgaaDoor
