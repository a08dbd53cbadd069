/-
  The net that tells all the same in the same order: the closed fact, what is done to a net, and what stays true.
  Conditions: none beyond those of each theorem.
-/
import Derived.Test.YthieompmmpbioaaSkG
import Derived.Test.YthieompmmpbioaaIntss
namespace Go.Proofs.Ythieompmmpbioaa
open Go Go.RowKit

/-- What stays true of a net, since the world w0. -/
def SRel (w0 w : World) (t g n : Nat) (s : SNet) : Prop := SInv s ∧ s.n = n ∧ SIn (fun b => b < w0.heap.size) w t g s ∧ Chg (NewB w0) w0 w

theorem SRel.start {w w1 w2 : World} {t g n : Nat} (h1 : 1 ≤ n) (h4 : n ≤ 4) (hc1 : Chg NoF w w1) (hc2 : Chg NoF w1 w2) (hin : SIn (fun b => b < w1.heap.size) w2 t g (SNet.init n)) : SRel w w2 t g n (SNet.init n) :=
  ⟨SInv.start h1 h4, rfl, hin.mono fun _ hb => Nat.lt_of_lt_of_le hb hc1.size, (hc1.trans hc2).ofNo⟩
theorem SRel.step {w0 w w1 : World} {t g n : Nat} {s s' : SNet} (h : SRel w0 w t g n s) (hs : SInv s') (hn : s'.n = s.n) (hin : SIn (fun b => b < w0.heap.size) w1 t g s') (hc : Chg (fun k => ¬ k < w0.heap.size) w w1) : SRel w0 w1 t g n s' :=
  ⟨hs, hn.trans h.2.1, hin, h.2.2.2.trans hc⟩
theorem SRel.keep {w0 w w1 : World} {t g n : Nat} {s : SNet} (h : SRel w0 w t g n s) (hc : Chg NoF w w1) : SRel w0 w1 t g n s :=
  ⟨h.1, h.2.1, h.2.2.1.keep hc, h.2.2.2.trans hc.ofNo⟩

set_option maxHeartbeats 2000000 in
set_option maxRecDepth 100000 in
theorem skeenFact_any (w : World) : Calls Try.prog 7 #[] w fun e w' => e = .returned (.bool true) ∧ Chg NoF w w' := by
  go_enter Try.func7, Try.ntmps7
  go_wp2_with fail
  refine (new_any 1 w).mono ?_
  rintro e w1 ⟨hc1, h⟩
  rcases h with ⟨h, _⟩ | ⟨k, hk, _, _, t, g, rfl, hin⟩
  · exact absurd h (by decide)
  obtain rfl : k = 1 := by omega
  clear hk
  have HREL := Lib.hid (SRel.start (w := w) (by decide) (by decide) (Chg.refl NoF w) hc1 hin)
  have HG := Lib.hid (send_any _ w1 t g _ HREL.out.2.2.1 HREL.out.1.toSPre)
  clear hc1 hin
  go_wp2_with fail
  refine HG.out.mono ?_
  rintro e w2 ⟨rfl, hin, hc⟩
  rw [show (SNet.init 1).sendErr = 0 by decide, show (SNet.init 1).sendVal = 0 by decide, show errV 0 = .nilIface from rfl]
  have HREL2 := Lib.hid (HREL.out.step HREL.out.1.send (SNet.send_n _) hin hc)
  have HT := Lib.hid (hear_any _ w2 t g _ HREL2.out.2.2.1 HREL2.out.1.toSPre 0 0)
  clear hin hc HG
  go_wp2_with fail
  refine HT.out.mono ?_
  rintro e w3 ⟨rfl, hin, hc⟩
  rw [show (SNet.init 1).send.hearErr 0 0 = 0 by decide, show (SNet.init 1).send.hearVal 0 0 = 1 by decide, show errV 0 = .nilIface from rfl]
  have HREL3 := Lib.hid (HREL2.out.step (HREL2.out.1.hear 0 0) (SNet.hear_n _ _ _) hin hc)
  have HF := Lib.hid (fix_any _ w3 t g _ HREL3.out.2.2.1 HREL3.out.1 0 0)
  clear hin hc HT
  go_wp2_with fail
  refine HF.out.mono ?_
  rintro e w4 ⟨rfl, hin, hc⟩
  rw [show ((SNet.init 1).send.hear 0 0).fixErr 0 0 = 0 by decide, show ((SNet.init 1).send.hear 0 0).fixVal 0 0 = 1 by decide, show errV 0 = .nilIface from rfl]
  have HREL4 := Lib.hid (HREL3.out.step (HREL3.out.1.fixIt 0 0) (SNet.fixIt_n _ _ _) hin hc)
  have HGOT := Lib.hid (got_any _ w4 t g _ HREL4.out.2.2.1 HREL4.out.1.toSPre 0)
  rw [show (((SNet.init 1).send.hear 0 0).fixIt 0 0).gotOf 0 = [0] by decide] at HGOT
  clear hin hc HF
  go_wp2_with fail
  refine HGOT.out.mono ?_
  rintro e w5 ⟨v, rfl, hown, hc⟩
  have HO := Lib.hid hown
  have HC := Lib.hid hc
  have HREL5 := Lib.hid (HREL4.out.keep hc)
  obtain ⟨va, vc, rfl⟩ := owns_val hown
  clear hown hc
  go_wp2_with fail
  refine (ints_any (fun _ => True) _ _ [0] [0] _ ((Rd.ofOwns HO.out (fun _ _ => trivial)).keep ((Chg.refl NoF w5).alloc _) (fun _ _ h => h)) (Rd.built w5 3 [0] 1 _ trivial) (by decide) (by decide)).mono ?_
  rintro e w6 ⟨rfl, j, rfl⟩
  go_wp2
  go_ret
  have hc := HREL5.out.2.2.2.trans (((Chg.refl (NewB w) w5).alloc (.cells #[.int .i64 0] 3)).drewN j)
  exact ⟨rfl, hc.os, hc.tape, hc.output, hc.size, fun k hk _ => hc.block k hk (fun hn => hn hk)⟩

set_option maxHeartbeats 4000000 in
set_option maxRecDepth 100000 in
theorem does_any (S : Nat → Prop) (w : World) (t g : Nat) (s : SNet) (h : SIn S w t g s) (hs : SInv s) (hS : ∀ b, S b → b < w.heap.size) (v : Value) (l : List Int) (hl : Rd S w v l) :
    Calls Try.prog 9 #[.pointer (some ⟨t, 0, none⟩), v] w (DonePost S w t g (s.act l)) := by
  obtain ⟨n, hN⟩ : ∃ n, Hid (l.length = n) := ⟨_, Lib.hid rfl⟩
  by_cases h1 : n = 1
  · subst h1
    obtain ⟨a, c, rfl⟩ := hl.val
    rw [hN.out]
    have HG := Lib.hid (send_any S w t g s h hs.toSPre)
    have hact : Hid (s.act l = s.send) := Lib.hid (by unfold SNet.act; rw [if_pos hN.out])
    clear h hs hl
    go_enter Try.func9, Try.ntmps9
    go_wp2_with fail
    refine HG.out.mono ?_
    rintro e w1 ⟨rfl, hin, hcc⟩
    go_wp2
    go_end0
    exact ⟨rfl, by rw [hact.out]; exact hin, hcc⟩
  by_cases h2 : n = 2
  · subst h2
    obtain ⟨b, off, c, rfl, hbS, hc⟩ := hl.form (by rw [hN.out]; omega)
    rw [hN.out] at hc ⊢
    have d0 := hc 0 (by omega)
    have d1 := hc 1 (by omega)
    obtain ⟨x, hX⟩ : ∃ x, Hid (l.getD 0 0 = x) := ⟨_, Lib.hid rfl⟩
    obtain ⟨y, hY⟩ : ∃ y, Hid (l.getD 1 0 = y) := ⟨_, Lib.hid rfl⟩
    rw [hX.out, Nat.add_zero] at d0
    rw [hY.out] at d1
    have HG := Lib.hid (hear_any S w.drew t g s (h.keep ((Chg.refl NoF w).drew)) hs.toSPre x y)
    have hact : Hid (s.act l = s.hear x y) := Lib.hid (by unfold SNet.act; rw [if_neg (by rw [hN.out]; omega), if_pos hN.out, hX.out, hY.out])
    clear h hs hl hc
    go_enter Try.func9, Try.ntmps9
    go_wp2_with fail
    refine wp_region_plan (Chg NoF w) 7 [(0,true),(1,true),(2,true),(3,true),(4,true),(5,true),(6,true),(7,false)] mixed (by kernel_rfl) (Chg.refl _ _).drew ?_
    simp only [planOps, List.map_cons, List.map_nil, List.getElem?_cons_zero, List.getElem?_cons_succ, Option.getD_some]
    generalize hops : List.toArray _ = ops
    iterate 7 (refine wpPlan_quiet (v := ?_) rfl (fun _ _ _ h => h) (by intro w1 hS; have s0 := hS.cell_some d0 (fun h => h); have s1 := hS.cell_some d1 (fun h => h); clear hS; go_simp; with_reducible rfl) ?_; (simp only [Act.put, List.setIfInBounds_toArray, List.set_cons_zero, List.set_cons_succ]))
    refine wpPlan_loud rfl (fun K hK => ?_)
    go_simp
    refine HG.out.mono ?_
    rintro e w1 ⟨rfl, hin, hcc⟩
    refine hK _ _ (fun h => absurd rfl h) ?_
    clear hK K
    clear hops
    refine wpPlan_nil ?_
    clear d0 d1
    go_wp2
    go_end0
    exact ⟨rfl, by rw [hact.out]; exact hin, ((Chg.refl _ w).drew).trans hcc⟩
  by_cases h3 : n = 3
  · subst h3
    obtain ⟨b, off, c, rfl, _, hc⟩ := hl.form (by rw [hN.out]; omega)
    rw [hN.out] at hc ⊢
    have d0 := hc 0 (by omega)
    have d1 := hc 1 (by omega)
    obtain ⟨x, hX⟩ : ∃ x, Hid (l.getD 0 0 = x) := ⟨_, Lib.hid rfl⟩
    obtain ⟨y, hY⟩ : ∃ y, Hid (l.getD 1 0 = y) := ⟨_, Lib.hid rfl⟩
    rw [hX.out, Nat.add_zero] at d0
    rw [hY.out] at d1
    have HG := Lib.hid (fix_any S w.drew t g s (h.keep ((Chg.refl NoF w).drew)) hs x y)
    have hact : Hid (s.act l = s.fixIt x y) := Lib.hid (by unfold SNet.act; rw [if_neg (by rw [hN.out]; omega), if_neg (by rw [hN.out]; omega), if_pos hN.out, hX.out, hY.out])
    clear h hs hl hc
    go_enter Try.func9, Try.ntmps9
    go_wp2_with fail
    refine wp_region_plan (Chg NoF w) 7 [(0,true),(1,true),(2,true),(3,true),(4,true),(5,true),(6,true),(7,false)] mixed (by kernel_rfl) (Chg.refl _ _).drew ?_
    simp only [planOps, List.map_cons, List.map_nil, List.getElem?_cons_zero, List.getElem?_cons_succ, Option.getD_some]
    generalize hops : List.toArray _ = ops
    iterate 7 (refine wpPlan_quiet (v := ?_) rfl (fun _ _ _ h => h) (by intro w1 hS; have s0 := hS.cell_some d0 (fun h => h); have s1 := hS.cell_some d1 (fun h => h); clear hS; go_simp; with_reducible rfl) ?_; (simp only [Act.put, List.setIfInBounds_toArray, List.set_cons_zero, List.set_cons_succ]))
    refine wpPlan_loud rfl (fun K hK => ?_)
    go_simp
    refine HG.out.mono ?_
    rintro e w1 ⟨rfl, hin, hcc⟩
    refine hK _ _ (fun h => absurd rfl h) ?_
    clear hK K
    clear hops
    refine wpPlan_nil ?_
    clear d0 d1
    go_wp2
    go_end0
    exact ⟨rfl, by rw [hact.out]; exact hin, ((Chg.refl _ w).drew).trans hcc⟩
  obtain ⟨a, c, rfl⟩ := hl.val
  have hact : Hid (s.act l = s) := Lib.hid (by unfold SNet.act; rw [if_neg (by rw [hN.out]; exact h1), if_neg (by rw [hN.out]; exact h2), if_neg (by rw [hN.out]; exact h3)])
  have b1 : ((n : Int) == 1) = false := by rw [beq_eq_false_iff_ne]; omega
  have b2 : ((n : Int) == 2) = false := by rw [beq_eq_false_iff_ne]; omega
  have b3 : ((n : Int) == 3) = false := by rw [beq_eq_false_iff_ne]; omega
  rw [hN.out]
  have HH := Lib.hid h
  clear h hs hl h1 h2 h3
  go_enter Try.func9, Try.ntmps9
  go_wp2
  go_end0
  exact ⟨rfl, by rw [hact.out]; exact HH.out, Chg.refl _ _⟩

end Go.Proofs.Ythieompmmpbioaa
