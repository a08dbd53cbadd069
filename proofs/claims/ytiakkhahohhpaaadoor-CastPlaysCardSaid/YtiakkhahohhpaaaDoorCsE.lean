/-
  The net that tells all of all: the closed fact, what is done to a net, and what stays true.
  Conditions: for the fact: package errors' variable errorType holds the handle of the type 'error'.
-/
import Derived.Test.YtiakkhahohhpaaaDoorCsD
import Derived.Test.YtiakkhahohhpaaaDoorAs
import Derived.Test.YtiakkhahohhpaaaDoorIntss
namespace Go.Proofs.YtiakkhahohhpaaaDoor
open Go Go.RowKit

theorem CNet.send_n (s : CNet) (p : Int) : (s.send p).n = s.n := by unfold CNet.send; split <;> rfl
theorem CNet.take_n (s : CNet) (p k : Int) : (s.take p k).n = s.n := by unfold CNet.take; split <;> rfl
theorem CNet.act_n (s : CNet) (l : List Int) : (s.act l).n = s.n := by
  unfold CNet.act
  split
  · exact s.send_n _
  · split
    · exact s.take_n _ _
    · rfl

/-- What stays true of a net, since the world w0. -/
def CRel (w0 w : World) (t n : Nat) (s : CNet) : Prop := CInv s s.m ∧ s.n = n ∧ CIn (fun b => b < w0.heap.size) w t s ∧ Chg (NewB w0) w0 w

theorem CRel.start {w w1 w2 : World} {t n : Nat} (h1 : 1 ≤ n) (h4 : n ≤ 4) (hc1 : Chg NoF w w1) (hc2 : Chg NoF w1 w2) (hin : CIn (fun b => b < w1.heap.size) w2 t (CNet.init n)) : CRel w w2 t n (CNet.init n) :=
  ⟨CInv.start h1 h4, rfl, hin.mono fun _ hb => Nat.lt_of_lt_of_le hb hc1.size, (hc1.trans hc2).ofNo⟩
theorem CRel.step {w0 w w1 : World} {t n : Nat} {s s' : CNet} (h : CRel w0 w t n s) (hs : CInv s' s'.m) (hn : s'.n = s.n) (hin : CIn (fun b => b < w0.heap.size) w1 t s') (hc : Chg (fun k => ¬ k < w0.heap.size) w w1) : CRel w0 w1 t n s' :=
  ⟨hs, hn.trans h.2.1, hin, h.2.2.2.trans hc⟩
theorem CRel.keep {w0 w w1 : World} {t n : Nat} {s : CNet} (h : CRel w0 w t n s) (hc : Chg NoF w w1) : CRel w0 w1 t n s :=
  ⟨h.1, h.2.1, h.2.2.1.keep hc, h.2.2.2.trans hc.ofNo⟩

set_option maxHeartbeats 4000000 in
set_option maxRecDepth 100000 in
theorem castFact_any (w : World) (hg : As.Met w) : Calls Tryd.prog 7 #[] w fun e w' => e = .returned (.bool true) ∧ Chg NoF w w' := by
  have HG := Lib.hid hg
  clear hg
  go_enter Tryd.func7, Tryd.ntmps7
  go_wp2_with fail
  refine (new_any 2 w).mono ?_
  rintro e w1 ⟨hc1, h⟩
  rcases h with ⟨h, _⟩ | ⟨k, hk, _, _, t, rfl, hin⟩
  · exact absurd h (by decide)
  obtain rfl : k = 2 := by omega
  clear hk
  have HREL := Lib.hid (CRel.start (w := w) (by decide) (by decide) (Chg.refl NoF w) hc1 hin)
  have HS := Lib.hid (send_any _ w1 t _ HREL.out.2.2.1 HREL.out.1 0)
  clear hc1 hin
  go_wp2_with fail
  refine HS.out.mono ?_
  rintro e w2 ⟨rfl, hin, hc⟩
  rw [show (CNet.init 2).sendErr 0 = 0 by decide, show (CNet.init 2).sendVal 0 = 0 by decide, show errV 0 = .nilIface from rfl]
  have HREL2 := Lib.hid (HREL.out.step (HREL.out.1.send 0) (CNet.send_n _ _) hin hc)
  have HS2 := Lib.hid (send_any _ w2 t _ HREL2.out.2.2.1 HREL2.out.1 0)
  clear hin hc HS
  go_wp2_with fail
  refine HS2.out.mono ?_
  rintro e w3 ⟨rfl, hin, hc⟩
  rw [show ((CNet.init 2).send 0).sendErr 0 = 0 by decide, show ((CNet.init 2).send 0).sendVal 0 = 1 by decide, show errV 0 = .nilIface from rfl]
  have HREL3 := Lib.hid (HREL2.out.step (HREL2.out.1.send 0) (CNet.send_n _ _) hin hc)
  have HT := Lib.hid (take_any _ w3 t _ HREL3.out.2.2.1 HREL3.out.1 1 1)
  rw [show (((CNet.init 2).send 0).send 0).takeErr 1 1 = 7 by decide] at HT
  clear hin hc HS2
  go_wp2_with fail
  refine HT.out.mono ?_
  rintro e w4 ⟨rfl, hin, hc⟩
  have HREL4 := Lib.hid (HREL3.out.step (HREL3.out.1.take 1 1) (CNet.take_n _ _ _) hin hc)
  have HER := Lib.hid (error_any 7 7 (by omega) (by omega) w4 (HG.out.new HREL4.out.2.2.2))
  rw [show errV 7 = .iface 54 (.int .i64 7) from rfl] at HER ⊢
  clear hin hc HT
  go_wp2_with fail
  refine HER.out.mono ?_
  rintro e w5 ⟨rfl, hc⟩
  have HREL5 := Lib.hid (HREL4.out.keep hc)
  have HT2 := Lib.hid (take_any _ w5 t _ HREL5.out.2.2.1 HREL5.out.1 1 0)
  rw [show ((((CNet.init 2).send 0).send 0).take 1 1).takeErr 1 0 = 0 by decide] at HT2
  simp only [decide_true]
  clear hc HER
  go_wp2_with fail
  refine HT2.out.mono ?_
  rintro e w6 ⟨rfl, hin, hc⟩
  rw [show errV 0 = .nilIface from rfl]
  have HREL6 := Lib.hid (HREL5.out.step (HREL5.out.1.take 1 0) (CNet.take_n _ _ _) hin hc)
  have HGOT := Lib.hid (got_any _ w6 t _ HREL6.out.2.2.1 HREL6.out.1 1)
  rw [show (((((CNet.init 2).send 0).send 0).take 1 1).take 1 0).gotOf 1 = [0] by decide] at HGOT
  clear hin hc HT2
  go_wp2_with fail
  refine HGOT.out.mono ?_
  rintro e w7 ⟨v, rfl, hown, hc⟩
  have HO := Lib.hid hown
  have HREL7 := Lib.hid (HREL6.out.keep hc)
  obtain ⟨va, vc, rfl⟩ := owns_val hown
  clear hown hc
  go_wp2_with fail
  refine (ints_any (fun _ => True) _ _ [0] [0] _ ((Rd.ofOwns HO.out (fun _ _ => trivial)).keep ((Chg.refl NoF w7).alloc _) (fun _ _ h => h)) (Rd.built w7 3 [0] 1 _ trivial) (by decide) (by decide)).mono ?_
  rintro e w8 ⟨rfl, j, rfl⟩
  go_wp2
  go_ret
  have hc := HREL7.out.2.2.2.trans (((Chg.refl (NewB w) w7).alloc (.cells #[.int .i64 0] 3)).drewN j)
  exact ⟨rfl, hc.os, hc.tape, hc.output, hc.size, fun k hk _ => hc.block k hk (fun hn => hn hk)⟩

set_option maxHeartbeats 4000000 in
set_option maxRecDepth 100000 in
theorem does_any (S : Nat → Prop) (w : World) (t : Nat) (s : CNet) (h : CIn S w t s) (hs : CInv s s.m) (v : Value) (l : List Int) (hl : Rd S w v l) :
    Calls Tryd.prog 13 #[.pointer (some ⟨t, 0, none⟩), v] w (DonePost S w t (s.act l)) := by
  obtain ⟨n, hN⟩ : ∃ n, Hid (l.length = n) := ⟨_, Lib.hid rfl⟩
  by_cases h1 : n = 1
  · subst h1
    obtain ⟨b, off, c, rfl, hbS, hc⟩ := hl.form (by rw [hN.out]; omega)
    rw [hN.out] at hc ⊢
    have d0 := hc 0 (by omega)
    obtain ⟨x, hX⟩ : ∃ x, Hid (l.getD 0 0 = x) := ⟨_, Lib.hid rfl⟩
    rw [hX.out, Nat.add_zero] at d0
    have HG := Lib.hid (send_any S w t s h hs x)
    have hact : Hid (s.act l = s.send x) := Lib.hid (by unfold CNet.act; rw [if_pos hN.out, hX.out])
    clear h hs hl hc
    go_enter Tryd.func13, Tryd.ntmps13
    go_wp2_with fail
    refine HG.out.mono ?_
    rintro e w1 ⟨rfl, hin, hcc⟩
    clear d0
    go_wp2
    go_end0
    exact ⟨rfl, by rw [hact.out]; exact hin, hcc⟩
  by_cases h2 : n = 2
  · subst h2
    obtain ⟨b, off, c, rfl, hbS, hc⟩ := hl.form (by rw [hN.out]; omega)
    rw [hN.out] at hc ⊢
    have d0 := hc 0 (by omega)
    have d1 := hc 1 (by omega)
    obtain ⟨x, hX⟩ : ∃ x, Hid (l.getD 0 0 = x) := ⟨_, Lib.hid rfl⟩
    obtain ⟨y, hY⟩ : ∃ y, Hid (l.getD 1 0 = y) := ⟨_, Lib.hid rfl⟩
    rw [hX.out, Nat.add_zero] at d0
    rw [hY.out] at d1
    have HG := Lib.hid (take_any S w.drew t s (h.keep ((Chg.refl NoF w).drew)) hs x y)
    have hact : Hid (s.act l = s.take x y) := Lib.hid (by unfold CNet.act; rw [if_neg (by rw [hN.out]; omega), if_pos hN.out, hX.out, hY.out])
    clear h hs hl hc
    go_enter Tryd.func13, Tryd.ntmps13
    go_wp2_with fail
    refine wp_region_plan (Chg NoF w) 7 [(0,true),(1,true),(2,true),(3,true),(4,true),(5,true),(6,true),(7,false)] mixed (by kernel_rfl) (Chg.refl _ _).drew ?_
    simp only [planOps, List.map_cons, List.map_nil, List.getElem?_cons_zero, List.getElem?_cons_succ, Option.getD_some]
    generalize hops : List.toArray _ = ops
    iterate 7 (refine wpPlan_quiet (v := ?_) rfl (fun _ _ _ h => h) (by intro w1 hS; have s0 := hS.cell_some d0 (fun h => h); have s1 := hS.cell_some d1 (fun h => h); clear hS; go_simp; with_reducible rfl) ?_; (simp only [Act.put, List.setIfInBounds_toArray, List.set_cons_zero, List.set_cons_succ]))
    refine wpPlan_loud rfl (fun K hK => ?_)
    go_simp
    refine HG.out.mono ?_
    rintro e w1 ⟨rfl, hin, hcc⟩
    refine hK _ _ (fun h => absurd rfl h) ?_
    clear hK K
    clear hops
    refine wpPlan_nil ?_
    clear d0 d1
    go_wp2
    go_end0
    exact ⟨rfl, by rw [hact.out]; exact hin, ((Chg.refl _ w).drew).trans hcc⟩
  obtain ⟨a, c, rfl⟩ := hl.val
  have hact : Hid (s.act l = s) := Lib.hid (by unfold CNet.act; rw [if_neg (by rw [hN.out]; exact h1), if_neg (by rw [hN.out]; exact h2)])
  have b1 : ((n : Int) == 1) = false := by rw [beq_eq_false_iff_ne]; omega
  have b2 : ((n : Int) == 2) = false := by rw [beq_eq_false_iff_ne]; omega
  rw [hN.out]
  have HH := Lib.hid h
  clear h hs hl h1 h2
  go_enter Tryd.func13, Tryd.ntmps13
  go_wp2
  go_end0
  exact ⟨rfl, by rw [hact.out]; exact HH.out, Chg.refl _ _⟩

end Go.Proofs.YtiakkhahohhpaaaDoor
