/-
  The walk of BitPlays: the program's line and the document's tell the same, whatever happens.
  Conditions: the values and the kinds are read as lists of integers; package errors' variable errorType holds the handle of the type 'error'.
-/
import Derived.Test.YtgpjjbfmckcjgaaDoorBtQ
import Derived.Test.YtgpjjbfmckcjgaaDoorPlay
import Derived.Test.YtgpjjbfmckcjgaaDoorDoor
namespace Go.Proofs.YtgpjjbfmckcjgaaDoor
open Go Go.RowKit

set_option maxHeartbeats 400000 in
theorem bwires_any (S : Nat → Prop) (w : World) (t : Nat) (s : BNet) (h : BIn S w t s) : Calls Tryd.prog 22 #[.pointer (some ⟨t, 0, none⟩)] w fun e w' => e = .returned (.tuple #[.int .i64 (s.forth.length : Int), .int .i64 (s.back.length : Int)]) ∧ ∃ k, w' = w.drewN k := by
  obtain ⟨V, tag, h⟩ := h
  have d3 : w.cell? ⟨t, 3, none⟩ = some (V .forth) := h.blk.cell 3
  have d4 : w.cell? ⟨t, 4, none⟩ = some (V .back) := h.blk.cell 4
  obtain ⟨fa, fc, ef⟩ := h.val0 .forth
  obtain ⟨ba, bc, eb⟩ := h.val0 .back
  rw [show V .forth = .slice fa s.forth.length fc from ef] at d3
  rw [show V .back = .slice ba s.back.length bc from eb] at d4
  clear h ef eb
  go_enter Tryd.func22, Tryd.ntmps22
  go_wp2
  go_quiet (fail)
  go_wp2
  go_ret2
  exact ⟨rfl, _, rfl⟩

set_option maxHeartbeats 1000000 in
theorem values_ref (S : Nat → Prop) (v : Value) (l : List Int) (w : World) (hr : Rd S w v l) (hlb : l.length ≤ 9223372036854775807) :
    Calls Tryd.prog 16 #[v] w fun e w' => e = .returned (.int .i64 (bnErr l)) ∧ w = w' := by
  have HR := Lib.hid hr
  obtain ⟨a, c, rfl⟩ := hr.val
  obtain ⟨n, hN⟩ : ∃ n, Hid (l.length = n) := ⟨_, Lib.hid rfl⟩
  rw [hN.out] at HR hlb ⊢
  clear hr
  by_cases h20 : 20 < n
  · have hE : Hid (bnErr l = 4) := Lib.hid (by unfold bnErr; rw [if_pos (by rw [hN.out]; exact h20)])
    have hi : (20 : Int) < n := by omega
    clear h20
    go_enter Tryd.func16, Tryd.ntmps16
    go_wp2
    go_ret
    exact ⟨by rw [hE.out]; rfl, rfl⟩
  have hi : ¬ (20 : Int) < n := by omega
  have HEE : Hid (bnErr l = if l.any (fun x => inB x 0 1000 == false) = true then 1 else 0) := Lib.hid (by unfold bnErr; rw [if_neg (by rw [hN.out]; exact h20)])
  clear h20
  go_enter Tryd.func16, Tryd.ntmps16
  go_wp2
  go_loop [3] (fun i => ∃ k : Nat, k ≤ n ∧ i = .int .i64 k ∧ Hid (∀ j, j < k → inB (l.getD j 0) 0 1000 = true)) (fun i => n - (intOf i).toNat)
  case atStart => exact ⟨0, Nat.zero_le _, rfl, Lib.hid fun j hj => absurd hj (Nat.not_lt_zero _)⟩
  case round =>
    obtain ⟨k, hkn, rfl, HB⟩ := hrel
    by_cases hlt : k < n
    · obtain ⟨b, off, c', ev, -, hc⟩ := HR.out.form (by rw [hN.out]; omega)
      rw [hN.out] at ev hc
      simp only [Value.slice.injEq] at ev
      obtain ⟨rfl, -, rfl⟩ := ev
      have d0 := hc k hlt
      obtain ⟨x, hX⟩ : ∃ x, Hid (l.getD k 0 = x) := ⟨_, Lib.hid rfl⟩
      rw [hX.out] at d0
      have hk1 : (k : Int) < n := by omega
      clear hc
      cases hin : inB x 0 1000 with
      | false =>
        have hE : Hid (bnErr l = 1) := Lib.hid (by
          rw [HEE.out, if_pos]
          rw [List.any_eq_true]
          refine ⟨l.getD k 0, ?_, by rw [hX.out, hin]; rfl⟩
          rw [List.getD, List.getElem?_eq_getElem (by rw [hN.out]; exact hlt)]; exact List.getElem_mem _)
        go_wp2_with fail
        refine (ref6In_any _ _ _ _).mono ?_
        rintro e w2 ⟨rfl, rfl⟩
        rw [hin]
        go_wp2
        go_ret
        exact ⟨by rw [hE.out]; rfl, rfl⟩
      | true =>
        have HB' : Hid (∀ j, j < k + 1 → inB (l.getD j 0) 0 1000 = true) := Lib.hid fun j hj => by
          by_cases e : j = k
          · subst e; rw [hX.out]; exact hin
          · exact HB.out j (by omega)
        have HKN : Hid (k + 1 ≤ n) := Lib.hid hlt
        go_wp2_with fail
        refine (ref6In_any _ _ _ _).mono ?_
        rintro e w2 ⟨rfl, rfl⟩
        rw [hin]
        go_wp2
        go_round
        case rel => exact ⟨k + 1, HKN.out, by go_num, HB'⟩
        case measure => have := HKN.out; simp [intOf]; omega
    · have hk1 : ¬ (k : Int) < n := by omega
      have hE : Hid (bnErr l = 0) := Lib.hid (by
        rw [HEE.out, if_neg]
        rw [List.any_eq_true]
        rintro ⟨x, hx, hf⟩
        obtain ⟨j, hj, rfl⟩ := List.getElem_of_mem hx
        have := HB.out j (by rw [hN.out] at hj; omega)
        rw [List.getD, List.getElem?_eq_getElem hj, Option.getD_some] at this
        rw [this] at hf
        exact absurd hf (by decide))
      go_wp2
      go_ret
      exact ⟨by rw [hE.out]; rfl, rfl⟩

theorem lineAdopts (t : Nat) (s : BNet) : Adopts fun S w => BIn S w t s where
  mono := fun h hS => h.mono hS
  adopt := fun {S F w w1} h hc hF => by
    obtain ⟨V, tag, h⟩ := h
    obtain ⟨tag', h'⟩ := Mem.adopt h hc hF
    exact ⟨V, tag', h'⟩

/-- The program's line, and the document's in block X. -/
structure LP (w w' : World) (X t : Nat) (s : BNet) : Prop where
  rel : PRel w w' X (fun S wr => BIn S wr t s) (lf s)
  inv : BInv s

theorem LP.no {w w' w1 : World} {X t : Nat} {s : BNet} (h : LP w w' X t s) (hc : Chg NoF w' w1) : LP w w1 X t s := ⟨h.rel.no (lineAdopts t s) hc, h.inv⟩

theorem berr_rng (s : BNet) (k : Int) : 0 ≤ s.err k ∧ s.err k ≤ 9 := by
  unfold BNet.err
  (repeat' split) <;> omega
theorem bnErr_rng (l : List Int) : 0 ≤ bnErr l ∧ bnErr l ≤ 9 := by
  unfold bnErr
  (repeat' split) <;> omega

set_option maxHeartbeats 8000000 in
set_option maxRecDepth 100000 in
theorem bplays_walk (v kv : Value) (l kl : List Int) (w : World) (hg : As.Met w) (hr : Rd (fun k => k < w.heap.size) w v l) (hs : Rd (fun k => k < w.heap.size) w kv kl) (hlb : l.length ≤ 9223372036854775807) (hsb : kl.length ≤ 9223372036854775807) :
    Calls Tryd.prog 4 #[v, kv] w fun e w' => e = .returned (.bool true) ∧ Chg (NewB w) w w' := by
  have HG := Lib.hid hg
  have HR := Lib.hid hr
  have HS := Lib.hid hs
  have HLB := Lib.hid hlb
  clear hg hr hs
  go_enter Tryd.func4, Tryd.ntmps4
  go_wp2_with fail
  refine (values_ref _ v l w HR.out hlb).mono ?_
  rintro e w1 ⟨rfl, rfl⟩
  have HER := Lib.hid (bnErr_rng l)
  obtain ⟨ec, hEC⟩ : ∃ ec, Hid (bnErr l = ec) := ⟨_, Lib.hid rfl⟩
  rw [hEC.out] at HER ⊢
  clear hlb
  go_wp2_with fail
  refine (bnew_any _ w v l HR.out HLB.out).mono ?_
  rintro e w2 ⟨hc2, hnew⟩
  have HC2 := Lib.hid hc2
  clear hc2
  rcases hnew with ⟨hne, rfl⟩ | ⟨hok, t, rfl, hin⟩
  · rw [hEC.out] at hne ⊢
    have hE : errV ec = .iface 52 (.int .i64 ec) := by unfold errV; rw [if_neg hne]
    have hec : (ec != 0) = true := by rw [bne_iff_ne]; exact hne
    have hb := HER.out
    have HERR := Lib.hid (error_any ec ec (by omega) (by omega) w2 (HG.out.no HC2.out))
    rw [hE] at HERR ⊢
    clear hne hb hE
    go_wp2_with fail
    refine HERR.out.mono ?_
    rintro e w4 ⟨rfl, hc4⟩
    simp only [decide_true]
    go_wp2
    go_ret
    exact ⟨rfl, (HC2.out.trans hc4).ofNo⟩
  rw [hEC.out] at hok
  subst hok
  obtain ⟨hgd1, hgd2⟩ := bnErr_good hEC.out
  have HIN := Lib.hid hin
  have HI0 := Lib.hid (BInv.start hgd1 hgd2)
  obtain ⟨pv, cv, rfl⟩ := HR.out.val
  obtain ⟨ps, cs, rfl⟩ := HS.out.val
  obtain ⟨n, hN⟩ : ∃ n, Hid (l.length = n) := ⟨_, Lib.hid rfl⟩
  obtain ⟨sl, hSL⟩ : ∃ sl, Hid (kl.length = sl) := ⟨_, Lib.hid rfl⟩
  rw [hN.out] at HR
  rw [hSL.out] at hsb HS
  rw [hN.out, hSL.out]
  clear hin hgd1 hgd2
  go_wp2_with (refine wpList_plain rfl (fun K hK => wp_storeT aggLine _ _ rfl w2.heap.size [.slice pv n cv, .int .i64 0, .slice none 0 0, .slice none 0 0, .slice none 0 0] [.slice none 0 0, .int .i64 0, .slice none 0 0, .slice none 0 0, .slice none 0 0] (by rfl) (by rfl) rfl (Blk.alloc w2 [.slice none 0 0, .int .i64 0, .slice none 0 0, .slice none 0 0, .slice none 0 0] 44) rfl rfl ?_); intro w3 hB3 hc3; have HB3 := Lib.hid hB3; have HC3 := Lib.hid hc3; clear hB3 hc3; refine hK _ _ ?_; clear hK)
  have HP0 : Hid (LP w w3 w2.heap.size t (BNet.init l)) := Lib.hid (by
    have hz2 := HC2.out.size
    have hcn : Chg NoF w2 w3 := ((Chg.refl NoF w2).alloc (.cells #[.slice none 0 0, .int .i64 0, .slice none 0 0, .slice none 0 0, .slice none 0 0] 44)).trans2 HC3.out fun i _ hi => .inr (by have hi : i = w2.heap.size := hi; omega)
    have hz3 : w2.heap.size < w3.heap.size := HB3.out.lt
    refine ⟨⟨⟨Plus (fun b => b < w.heap.size) w2 w3, _, fun b hb => .inl hb, .inr ⟨Nat.le_refl _, hz3⟩, (lineAdopts t _).adopt HIN.out hcn (fun _ _ h => h.elim), HB3.out, ?_⟩, (HC2.out.trans hcn).ofNo, by omega⟩, HI0.out⟩
    have h1 : Rd (fun b => Plus (fun b => b < w.heap.size) w2 w3 b ∧ b ≠ w2.heap.size) w3 (.slice pv n cv) l := (HR.out.keep (HC2.out.trans hcn) (fun _ _ h => h)).mono (fun b _ hb => ⟨.inl hb, by have hb : b < w.heap.size := hb; omega⟩)
    exact ⟨h1, rfl, Rd.nil _ _, Rd.nil _ _, Rd.nil _ _, trivial⟩)
  obtain ⟨X, HX⟩ : ∃ X, Hid (w2.heap.size = X) := ⟨_, Lib.hid rfl⟩
  rw [HX.out] at HP0 ⊢
  clear HIN HI0 HB3 HC3 HC2 HER
  go_loopw [9, 10, 11, 12, 13, 14, 15] (fun i _ _ _ _ _ _ wr => ∃ k : Nat, k ≤ sl ∧ k ≤ 200 ∧ i = .int .i64 k ∧ ∃ s, Hid (LP w wr X t s)) (fun i _ _ _ _ _ _ _ => 200 - (intOf i).toNat)
  case atStart => exact ⟨0, Nat.zero_le _, Nat.zero_le _, rfl, _, HP0⟩
  case round =>
    clear HP0
    obtain ⟨k, hksl, hk150, rfl, s, HP⟩ := hrel
    by_cases hlt : k < sl ∧ k < 200
    · obtain ⟨hlt1, hlt2⟩ := hlt
      obtain ⟨b, off, c, e1, hbS, hc⟩ := HS.out.form (by rw [hSL.out]; omega)
      simp only [Value.slice.injEq] at e1
      obtain ⟨rfl, -, rfl⟩ := e1
      have dw := hc k (by rw [hSL.out]; omega)
      obtain ⟨x, hX⟩ : ∃ x, Hid (kl.getD k 0 = x) := ⟨_, Lib.hid rfl⟩
      rw [hX.out] at dw
      have HBL : Hid (b < w.heap.size) := Lib.hid (World.block_lt_of_cell? w _ dw)
      have HBX1 : Hid (b ≠ X) := Lib.hid (fun e => HP.out.rel.nX (by rw [← e]; exact HBL.out))
      have d0 := HP.out.rel.chg.cell_some dw (fun hn => hn HBL.out)
      have hk1 : (k : Int) < sl := by omega
      have hk2 : (k : Int) < 200 := by omega
      have HKK : Hid (k < sl ∧ k < 200) := Lib.hid ⟨hlt1, hlt2⟩
      clear hc hlt1 hlt2 hksl hk150
      obtain ⟨S1, us, hS1, hBX, hRD, hput⟩ := HP.out.rel.doc (lineAdopts t s)
      have HS1 := Lib.hid hS1
      have HBX := Lib.hid hBX
      have HRD := Lib.hid hRD
      have HPUT := Lib.hid hput
      have HUL : Hid (us.length = 5) := Lib.hid hRD.len
      clear hS1 hBX hRD hput
      have HER := Lib.hid (berr_rng s x)
      have HSR := Lib.hid (fun wq (h : RdS S1 wq us (lf s)) => happens_ref S1 wq us s h HP.out.inv x)
      have HNT := Lib.hid (fun S5 w5 (h : BIn S5 w5 t s) => do_any S5 w5 t s h HP.out.inv x)
      have HI2 := Lib.hid (HP.out.inv.act x)
      obtain ⟨s2, HS2⟩ : ∃ s2, Hid (s.act x = s2) := ⟨_, Lib.hid rfl⟩
      obtain ⟨ke, HKE⟩ : ∃ ke, Hid (s.err x = ke) := ⟨_, Lib.hid rfl⟩
      unfold BDoPost at HNT
      rw [HS2.out] at HSR HNT HI2
      rw [HKE.out] at HSR HNT HER
      go_upto_region 9 with fail
      go_cut [10, 11] (fun y ce wx => ∃ Y, y = .pointer (some ⟨Y, 0, none⟩) ∧ ce = .int .i64 ke ∧ Hid (YR S1 wr wx Y (lf s2)))
      case first =>
        refine wp_region_pl (Chg NoF wr) 12 (.q 0 (.q 1 (.q 2 (.q 3 (.q 4 (.b2 5 9 (.q 6 (.q 7 (.q 8 (.l 9 (.l 10 (.q 11 .nil)))))) (.l 5 (.q 6 (.q 7 (.q 8 (.l 10 (.q 11 .nil)))))))))))) mixed (by kernel_rfl) (Chg.refl _ wr).drew ?_
        refine wpPl_quiet (by simp only [opAt, List.getElem?_cons_zero, List.getElem?_cons_succ, Option.getD_some]; rfl) (by rfl) (by exact fun _ _ _ h => h) (fun w1 hS => quiet_loadT aggLine _ rfl X us (by rfl) (HBX.out.keep hS (fun h => h)) HUL.out) ?_; (simp only [Act.put, List.setIfInBounds_toArray, List.set_cons_zero, List.set_cons_succ])
        iterate 4 (refine wpPl_quiet (v := ?_) (by simp only [opAt, List.getElem?_cons_zero, List.getElem?_cons_succ, Option.getD_some]; rfl) (by rfl) (by exact fun _ _ _ h => h) (by intro w1 hS; have s0 := hS.cell_some d0 (fun h => h); clear hS; go_simp; with_reducible rfl) ?_; (simp only [Act.put, List.setIfInBounds_toArray, List.set_cons_zero, List.set_cons_succ]))
        refine wpPl_b2 (by simp only [opAt, List.getElem?_cons_zero, List.getElem?_cons_succ, Option.getD_some]; rfl) (by rfl) (by simp only [opAt, List.getElem?_cons_zero, List.getElem?_cons_succ, Option.getD_some]; rfl) (by rfl) (fun K hK => ?_) (fun K hK => ?_)
        · go_simp
          refine (HSR.out _ (HRD.out.keep ((Chg.refl NoF wr).drew) (fun _ _ h => h))).mono ?_
          rintro e w1 ⟨v1, rfl, us1, rfl, hr1, hc1⟩
          have hcz1 : Chg NoF wr w1 := ((Chg.refl NoF wr).drew).trans hc1
          refine hK _ _ (fun _ => hcz1) ?_
          clear hK
          (try simp only [Act.put, List.setIfInBounds_toArray, List.set_cons_zero, List.set_cons_succ])
          iterate 3 (refine wpPl_quiet (v := ?_) (by simp only [opAt, List.getElem?_cons_zero, List.getElem?_cons_succ, Option.getD_some]; rfl) (by rfl) (by exact fun _ _ _ h => h) (by intro w1 hS; clear hS; go_simp; with_reducible rfl) ?_; (simp only [Act.put, List.setIfInBounds_toArray, List.set_cons_zero, List.set_cons_succ]))
          refine wpPl_l (by simp only [opAt, List.getElem?_cons_zero, List.getElem?_cons_succ, Option.getD_some]; rfl) (by rfl) (fun K hK => ?_)
          go_simp
          refine hK _ _ (fun _ => hcz1.alloc _) ?_
          clear hK
          (try simp only [Act.put, List.setIfInBounds_toArray, List.set_cons_zero, List.set_cons_succ])
          refine wpPl_l (by simp only [opAt, List.getElem?_cons_zero, List.getElem?_cons_succ, Option.getD_some]; rfl) (by rfl) (fun K hK => ?_)
          refine wp_storeT aggLine _ _ rfl w1.heap.size us1 [.slice none 0 0, .int .i64 0, .slice none 0 0, .slice none 0 0, .slice none 0 0] (by rfl) (by rfl) hr1.len (Blk.alloc w1 [.slice none 0 0, .int .i64 0, .slice none 0 0, .slice none 0 0, .slice none 0 0] 44) rfl hr1.one ?_
          intro wz hBz hcz
          have hyr := Lib.hid (YR.mk1 (S1 := S1) (zs := [.slice none 0 0, .int .i64 0, .slice none 0 0, .slice none 0 0, .slice none 0 0]) hcz1 hr1 44 hBz hcz)
          refine hK _ _ (fun _ => hyr.out.chg) ?_
          clear hK
          (try simp only [Act.put, List.setIfInBounds_toArray, List.set_cons_zero, List.set_cons_succ])
          (refine wpPl_quiet (v := ?_) (by simp only [opAt, List.getElem?_cons_zero, List.getElem?_cons_succ, Option.getD_some]; rfl) (by rfl) (by exact fun _ _ _ h => h) (by intro w1 hS; clear hS; go_simp; with_reducible rfl) ?_; (simp only [Act.put, List.setIfInBounds_toArray, List.set_cons_zero, List.set_cons_succ]))
          refine wpPl_nil ?_
          clear hBz hcz hcz1 hr1 hc1
          go_wp2_with fail
          go_meet
          case rel => exact ⟨w1.heap.size, rfl, rfl, hyr⟩
        · go_simp
          refine hK _ _ (fun _ => ((Chg.refl NoF wr).drew).alloc _) ?_
          clear hK
          (try simp only [Act.put, List.setIfInBounds_toArray, List.set_cons_zero, List.set_cons_succ])
          refine wpPl_l (by simp only [opAt, List.getElem?_cons_zero, List.getElem?_cons_succ, Option.getD_some]; rfl) (by rfl) (fun K hK => ?_)
          go_simp
          refine (HSR.out _ (HRD.out.keep (((Chg.refl NoF wr).drew).alloc _) (fun _ _ h => h))).mono ?_
          rintro e w1 ⟨v1, rfl, us1, rfl, hr1, hc1⟩
          have hcz1 : Chg NoF wr w1 := (((Chg.refl NoF wr).drew).alloc _).trans hc1
          refine hK _ _ (fun _ => hcz1) ?_
          clear hK
          (try simp only [Act.put, List.setIfInBounds_toArray, List.set_cons_zero, List.set_cons_succ])
          iterate 3 (refine wpPl_quiet (v := ?_) (by simp only [opAt, List.getElem?_cons_zero, List.getElem?_cons_succ, Option.getD_some]; rfl) (by rfl) (by exact fun _ _ _ h => h) (by intro w1 hS; clear hS; go_simp; with_reducible rfl) ?_; (simp only [Act.put, List.setIfInBounds_toArray, List.set_cons_zero, List.set_cons_succ]))
          refine wpPl_l (by simp only [opAt, List.getElem?_cons_zero, List.getElem?_cons_succ, Option.getD_some]; rfl) (by rfl) (fun K hK => ?_)
          refine wp_storeT aggLine _ _ rfl wr.heap.size us1 [.slice none 0 0, .int .i64 0, .slice none 0 0, .slice none 0 0, .slice none 0 0] (by rfl) (by rfl) hr1.len ((Blk.alloc wr.drew [.slice none 0 0, .int .i64 0, .slice none 0 0, .slice none 0 0, .slice none 0 0] 44).keep hc1 (fun h => h)) rfl hr1.one ?_
          intro wz hBz hcz
          have hyr := Lib.hid ((YR.mk2 (S1 := S1) (w := wr.drew) (Y := wr.heap.size) (zs := [.slice none 0 0, .int .i64 0, .slice none 0 0, .slice none 0 0, .slice none 0 0]) rfl HS1.out 44 hc1 hr1 hBz hcz).ofDrew)
          refine hK _ _ (fun _ => hyr.out.chg) ?_
          clear hK
          (try simp only [Act.put, List.setIfInBounds_toArray, List.set_cons_zero, List.set_cons_succ])
          (refine wpPl_quiet (v := ?_) (by simp only [opAt, List.getElem?_cons_zero, List.getElem?_cons_succ, Option.getD_some]; rfl) (by rfl) (by exact fun _ _ _ h => h) (by intro w1 hS; clear hS; go_simp; with_reducible rfl) ?_; (simp only [Act.put, List.setIfInBounds_toArray, List.set_cons_zero, List.set_cons_succ]))
          refine wpPl_nil ?_
          clear hBz hcz hcz1 hr1 hc1
          go_wp2_with fail
          go_meet
          case rel => exact ⟨wr.heap.size, rfl, rfl, hyr⟩
      case rest =>
      obtain ⟨Y, rfl, rfl, HY⟩ := hcut
      obtain ⟨us', hcY, hBY, hRY⟩ := HY.out
      have HYC := Lib.hid hcY
      have HYB := Lib.hid hBY
      have HYR := Lib.hid hRY
      have HXC : Hid (Blk wc X us) := Lib.hid (HBX.out.keep hcY (fun h => h))
      have d0c := hcY.cell_some d0 (fun h => h)
      obtain ⟨fn, HFN⟩ : ∃ n, Hid (s2.forth.length = n) := ⟨_, Lib.hid rfl⟩
      obtain ⟨bn, HBN⟩ : ∃ n, Hid (s2.back.length = n) := ⟨_, Lib.hid rfl⟩
      obtain ⟨gn, HGN⟩ : ∃ n, Hid (s2.got.length = n) := ⟨_, Lib.hid rfl⟩
      obtain ⟨sn, HSN⟩ : ∃ n, Hid (s2.sent = n) := ⟨_, Lib.hid rfl⟩
      clear hcY hBY hRY HY d0 HBX HRD HSR
      go_wp2_with (first
        | (refine wpList_plain rfl (fun K hK => wp_loadT aggLine _ rfl Y us' (by rfl) HYB.out HYR.out.len ?_); refine hK _ _ ?_; clear hK)
        | (refine wpList_plain rfl (fun K hK => wp_storeT aggLine _ _ rfl X us' us (by rfl) (by rfl) HYR.out.len HXC.out HUL.out HYR.out.one ?_); intro w5 hB5 hc5; have HP5 := Lib.hid (HPUT.out _ _ _ _ HYC.out HYR.out hB5 hc5); have d05 := hc5.cell_some d0c HBX1.out; clear hB5 hc5; obtain ⟨S5, us5, hSX, hin5, hBX5, hR5, hstep5⟩ := HP5.out.all; obtain ⟨va, vc, ga, gc, fa, fc, ba, bc, rfl⟩ := lf_opn hR5; rw [HFN.out, HBN.out, HGN.out, HSN.out] at hBX5; have HBX5 := Lib.hid hBX5; have HIN5 := Lib.hid hin5; have HSTEP := Lib.hid hstep5; have HSX := Lib.hid hSX; have q1 : w5.cell? ⟨X, 1, none⟩ = some (.int .i64 (sn : Int)) := hBX5.cell 1; have q2 : w5.cell? ⟨X, 2, none⟩ = some (.slice ga gn gc) := hBX5.cell 2; have q3 : w5.cell? ⟨X, 3, none⟩ = some (.slice fa fn fc) := hBX5.cell 3; have q4 : w5.cell? ⟨X, 4, none⟩ = some (.slice ba bn bc) := hBX5.cell 4; clear hBX5 hin5 hstep5 hSX hR5; refine hK _ _ ?_; clear hK))
      have hss : ((sn : Int) != (sn : Int)) = false := by simp
      clear d0c q3 q4
      refine wp_region_plan (fun wq => wq.cell? ⟨X, 1, none⟩ = some (.int .i64 (sn : Int)) ∧ wq.cell? ⟨X, 2, none⟩ = some (.slice ga gn gc) ∧ wq.cell? ⟨b, off + k, none⟩ = some (.int .i64 x)) 24 [(0,true),(1,true),(2,true),(3,true),(4,true),(6,true),(5,false),(7,false),(8,true),(9,true),(10,true),(12,true),(13,true),(11,false),(14,false),(15,true),(16,true),(17,true),(18,true),(20,true),(21,true),(19,false),(22,true),(23,true)] mixed (by kernel_rfl) ⟨q1, q2, d05⟩ ?_
      simp only [planOps, List.map_cons, List.map_nil, List.getElem?_cons_zero, List.getElem?_cons_succ, Option.getD_some]
      generalize hops : List.toArray _ = ops
      iterate 6 (refine wpPlan_quiet (v := ?_) rfl (fun _ _ _ h => h) (by intro w1 hS; obtain ⟨u1, u2, u3⟩ := hS; go_simp; with_reducible rfl) ?_; (simp only [Act.put, List.setIfInBounds_toArray, List.set_cons_zero, List.set_cons_succ]))
      refine wpPlan_loud rfl (fun K hK => ?_)
      go_simp
      refine (HNT.out S5 w5.drew ((lineAdopts t s).other HIN5.out ((Chg.refl NoF w5).drew) (fun _ _ h => h.elim))).mono ?_
      rintro e w6 ⟨rfl, hin6, hc6⟩
      have hc56 : Chg (fun k => ¬ S5 k) w5 w6 := ((Chg.refl _ w5).drew).trans hc6
      obtain ⟨hp6, hb6, hr6⟩ := HSTEP.out w6 (fun S wr => BIn S wr t s2) hin6 hc56
      have HP6 : Hid (LP w w6 X t s2) := Lib.hid ⟨hp6, HI2.out⟩
      have HIN6 := Lib.hid hin6
      rw [HFN.out, HBN.out, HGN.out, HSN.out] at hb6
      have HB6 := Lib.hid hb6
      have HR6 := Lib.hid hr6
      have HD6 : Hid (w6.cell? ⟨b, off + k, none⟩ = some (.int .i64 x)) := Lib.hid (HP6.out.rel.chg.cell_some dw (fun hn => hn HBL.out))
      refine hK _ _ (fun _ => ⟨hb6.cell 1, hb6.cell 2, HD6.out⟩) ?_
      clear hK K hin6 hc6 hp6 hb6 hr6 hc56 HP5 HNT HPUT HP HSTEP d05 q1 q2
      (try simp only [Act.put, List.setIfInBounds_toArray, List.set_cons_zero, List.set_cons_succ])
      refine wpPlan_loud rfl (fun K hK => ?_)
      go_simp
      refine (error_any ke ke (by have := HER.out; omega) (by have := HER.out; omega) w6 (HG.out.new HP6.out.rel.chg)).mono ?_
      rintro e w7 ⟨rfl, hc7⟩
      simp only [decide_true]
      have HB7 := Lib.hid (HB6.out.keep hc7 (fun h => h))
      have HP7 := Lib.hid (HP6.out.no hc7)
      have HIN7 := Lib.hid (HIN6.out.keep hc7)
      have HR7 := Lib.hid (RdS.keep hc7 (fun _ _ h => h) HR6.out)
      have HD7 : Hid (w7.cell? ⟨b, off + k, none⟩ = some (.int .i64 x)) := Lib.hid (hc7.cell_some HD6.out (fun h => h))
      refine hK _ _ (fun _ => ⟨HB7.out.cell 1, HB7.out.cell 2, HD7.out⟩) ?_
      clear hK K hc7 HP6 HIN6 HR6 HB6 HD6
      (try simp only [Act.put, List.setIfInBounds_toArray, List.set_cons_zero, List.set_cons_succ])
      iterate 2 (refine wpPlan_quiet (v := ?_) rfl (fun _ _ _ h => h) (by intro w1 hS; obtain ⟨u1, u2, u3⟩ := hS; go_simp; with_reducible rfl) ?_; (simp only [Act.put, List.setIfInBounds_toArray, List.set_cons_zero, List.set_cons_succ]))
      iterate 3 (refine wpPlan_quietG (v := ?_) (by rw [← hops]; rfl) (fun _ _ _ h => h) (by intro w1 hS; obtain ⟨u1, u2, u3⟩ := hS; go_simp; with_reducible rfl) ?_; (simp only [Act.put, List.setIfInBounds_toArray, List.set_cons_zero, List.set_cons_succ]))
      refine wpPlan_loudG (by rw [← hops]; rfl) (fun K hK => ?_)
      go_simp
      refine (bgot_any S5 w7 t s2 HIN7.out (by have := HI2.out.gle; have := HI2.out.v20; omega)).mono ?_
      rintro e w8 ⟨vg, rfl, hown, hc8⟩
      have HGV := Lib.hid (Rd.ofOwns (S := fun _ => True) hown (fun _ _ => trivial))
      have HB8 := Lib.hid (HB7.out.keep hc8 (fun h => h))
      have HP8 := Lib.hid (HP7.out.no hc8)
      have HIN8 := Lib.hid (HIN7.out.keep hc8)
      have HGR : Hid (Rd (fun _ => True) w8 (.slice ga gn gc) s2.got) := Lib.hid (by
        have h1 := RdS.at 2 (RdS.keep hc8 (fun _ _ h => h) HR7.out) rfl rfl
        have h2 : Rd (fun b => S5 b ∧ b ≠ X) w8 (.slice ga s2.got.length gc) s2.got := h1
        rw [HGN.out] at h2
        exact h2.mono fun _ _ _ => trivial)
      have HD8 : Hid (w8.cell? ⟨b, off + k, none⟩ = some (.int .i64 x)) := Lib.hid (hc8.cell_some HD7.out (fun h => h))
      refine hK _ _ (fun _ => ⟨HB8.out.cell 1, HB8.out.cell 2, HD8.out⟩) ?_
      clear hK K hown hc8 HP7 HIN7 HR7 HB7 HD7
      (try simp only [Act.put, List.setIfInBounds_toArray, List.set_cons_zero, List.set_cons_succ])
      refine wpPlan_loudG (by rw [← hops]; rfl) (fun K hK => ?_)
      go_simp
      refine (ints_any (fun _ => True) _ _ _ _ w8 HGV.out HGR.out (by have := HI2.out.gle; have := HI2.out.v20; omega) (by have := HI2.out.gle; have := HI2.out.v20; omega)).mono ?_
      rintro e w9 ⟨rfl, kz, rfl⟩
      simp only [decide_true]
      have HCZ : Hid (Chg NoF w8 (w8.drewN kz)) := Lib.hid ((Chg.refl NoF w8).drewN kz)
      have HB9 := Lib.hid (HB8.out.keep HCZ.out (fun h => h))
      have HP9 := Lib.hid (HP8.out.no HCZ.out)
      have HIN9 := Lib.hid (HIN8.out.keep HCZ.out)
      refine hK _ _ (fun _ => ⟨HB9.out.cell 1, HB9.out.cell 2, HCZ.out.cell_some HD8.out (fun h => h)⟩) ?_
      have HD9 : Hid ((w8.drewN kz).cell? ⟨b, off + k, none⟩ = some (.int .i64 x)) := Lib.hid (HCZ.out.cell_some HD8.out (fun h => h))
      clear hK K HP8 HIN8 HB8 HCZ HD8 HGV HGR
      generalize w8.drewN kz = w10 at *
      (try simp only [Act.put, List.setIfInBounds_toArray, List.set_cons_zero, List.set_cons_succ])
      (refine wpPlan_quietG (v := ?_) (by rw [← hops]; rfl) (fun _ _ _ h => h) (by intro w1 hS; obtain ⟨u1, u2, u3⟩ := hS; go_simp; with_reducible rfl) ?_; (simp only [Act.put, List.setIfInBounds_toArray, List.set_cons_zero, List.set_cons_succ]))
      iterate 2 (refine wpPlan_quiet (v := ?_) rfl (fun _ _ _ h => h) (by intro w1 hS; obtain ⟨u1, u2, u3⟩ := hS; go_simp; with_reducible rfl) ?_; (simp only [Act.put, List.setIfInBounds_toArray, List.set_cons_zero, List.set_cons_succ]))
      iterate 3 (refine wpPlan_quietG (v := ?_) (by rw [← hops]; rfl) (fun _ _ _ h => h) (by intro w1 hS; obtain ⟨u1, u2, u3⟩ := hS; go_simp; with_reducible rfl) ?_; (simp only [Act.put, List.setIfInBounds_toArray, List.set_cons_zero, List.set_cons_succ]))
      refine wpPlan_loudG (by rw [← hops]; rfl) (fun K hK => ?_)
      go_simp
      refine (bsent_any S5 w10 t s2 HIN9.out).mono ?_
      rintro e w11 ⟨rfl, rfl⟩
      rw [HSN.out]
      refine hK _ _ (fun _ => ⟨HB9.out.cell 1, HB9.out.cell 2, HD9.out⟩) ?_
      clear hK K
      (try simp only [Act.put, List.setIfInBounds_toArray, List.set_cons_zero, List.set_cons_succ])
      (refine wpPlan_quietG (v := ?_) (by rw [← hops]; rfl) (fun _ _ _ h => h) (by intro w1 hS; obtain ⟨u1, u2, u3⟩ := hS; go_simp; with_reducible rfl) ?_; (simp only [Act.put, List.setIfInBounds_toArray, List.set_cons_zero, List.set_cons_succ]))
      (refine wpPlan_quiet (v := ?_) rfl (fun _ _ _ h => h) (by intro w1 hS; obtain ⟨u1, u2, u3⟩ := hS; go_simp; with_reducible rfl) ?_; (simp only [Act.put, List.setIfInBounds_toArray, List.set_cons_zero, List.set_cons_succ]))
      clear hops
      refine wpPlan_nil ?_
      go_wp2_with fail
      refine (bwires_any S5 w10 t s2 HIN9.out).mono ?_
      rintro e w11 ⟨rfl, kw, rfl⟩
      rw [HFN.out, HBN.out]
      have HP9 := Lib.hid (HP9.out.no ((Chg.refl NoF w10).drewN kw))
      have hff : ((fn : Int) != (fn : Int)) = false := by simp
      have hbb : ((bn : Int) != (bn : Int)) = false := by simp
      clear hss HB9 HD9 dw
      go_wp2
      go_roundw
      case rel => first | exact ⟨k + 1, HKK.out.1, HKK.out.2, by go_num, s2, HP9⟩ | ((repeat apply Exists.intro); exact ⟨⟨HKK.out.1, HKK.out.2, by go_num, HP9⟩, rfl⟩)
      case measure => have := HKK.out; simp [intOf]; omega
    · have hb : ¬ (k : Int) < sl ∨ ((k : Int) < sl ∧ ¬ (k : Int) < 200) := by omega
      clear hlt hksl hk150
      rcases hb with hb | ⟨hb1, hb2⟩
      all_goals
        go_wp2
        go_ret
        exact ⟨rfl, HP.out.rel.chg⟩

end Go.Proofs.YtgpjjbfmckcjgaaDoor
