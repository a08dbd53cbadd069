/-
  The walk of ElectPlays: the program's ring and the document's tell the same, whatever is begun and stepped.
  Conditions: the names and the steps are read as lists of integers that fit an int; package errors' variable errorType holds the handle of the type 'error'.
-/
import Derived.Test.YtgpjjbfmckcjgaaDoorElR
import Derived.Test.YtgpjjbfmckcjgaaDoorPlay
import Derived.Test.YtgpjjbfmckcjgaaDoorDoor
namespace Go.Proofs.YtgpjjbfmckcjgaaDoor
open Go Go.RowKit

theorem RingIn.mono {S S' : Nat → Prop} {w : World} {t : Nat} {s : Ring} (h : RingIn S w t s) (hS : ∀ b, S' b → S b) : RingIn S' w t s := by
  obtain ⟨h1, h2, N, B, W, M, tag, h⟩ := h
  exact ⟨fun b hb => h1 b (hS b hb), h2, N, B, W, M, tag, ⟨fun b hb => h.hS b (hS b hb), h.ht, h.blk, h.names, h.begun, h.ways, h.msgs, h.lens⟩⟩

theorem ringAdopts (t : Nat) (s : Ring) : Adopts fun S w => RingIn S w t s where
  mono := fun h hS => h.mono hS
  adopt := fun {S F w w1} h hc0 hF => by
    obtain ⟨hSlt, hBnd, N, B, W, M, tag, h⟩ := h
    have hc : Chg S w w1 := hc0.mono hF
    have ht : ∀ b, b < w.heap.size → (fun b => if w.heap.size ≤ b then 0 else tag b) b = tag b := fun b hb => by show (if _ then _ else _) = _; rw [if_neg (by omega)]
    have hk : ∀ {r e k n : Nat} {v : Value} {xs : List Value}, 0 < r → Own w tag r e k v n xs → Own w1 (fun b => if w.heap.size ≤ b then 0 else tag b) r e k v n xs := fun hr ho => ho.keep hc (fun b hb => by rw [h.hS b hb]; omega) ht
    refine ⟨fun b hb => ?_, hBnd, N, B, W, M, _, ⟨fun b hb => ?_, (ht t h.blk.lt).trans h.ht, h.blk.keep hc (fun hs => by have := h.hS t hs; rw [h.ht] at this; cases this), hk (by omega) h.names, hk (by omega) h.begun, hk (by omega) h.ways, fun i hi => hk (by omega) (h.msgs i hi), h.lens⟩⟩
    · rcases hb with hb | hb
      · exact Nat.lt_of_lt_of_le (hSlt b hb) hc.size
      · exact hb.2
    · rcases hb with hb | hb
      · show (if w.heap.size ≤ b then 0 else tag b) = 0
        split
        · rfl
        · exact h.hS b hb
      · show (if w.heap.size ≤ b then 0 else tag b) = 0
        rw [if_pos hb.1]

def Ring.act (s : Ring) (x : Int) : Ring := if 0 ≤ x then s.beg x else s.step (-1 - x)

/-- The program's ring, and the document's in block X. -/
structure EP (w w' : World) (X t : Nat) (l : List Int) (s : Ring) : Prop where
  rel : PRel w w' X (fun S wr => RingIn S wr t s) (rf s)
  inv : EInv s
  nm : s.names = l
  tot : 2 * (s.sent + pot s) ≤ l.length * (l.length + 1) + 2 * l.length

theorem EP.sent {w w' : World} {X t : Nat} {l : List Int} {s : Ring} (h : EP w w' X t l s) : s.sent ≤ 20 := by
  have h5 : l.length ≤ 5 := by rw [← h.nm]; exact h.inv.l4
  have : l.length * (l.length + 1) ≤ 5 * 6 := Nat.mul_le_mul h5 (by omega)
  have := h.tot
  omega
theorem EP.good {w w' : World} {X t : Nat} {l : List Int} {s : Ring} (h : EP w w' X t l s) : RGood s := by
  obtain ⟨S, hin, _⟩ := h.rel.net
  exact ⟨h.inv.l1, h.inv.l2, h.inv.l3, h.inv.l4, hin.2.1, by have := h.sent; omega⟩
theorem EP.no {w w' w1 : World} {X t : Nat} {l : List Int} {s : Ring} (h : EP w w' X t l s) (hc : Chg NoF w' w1) : EP w w1 X t l s :=
  ⟨h.rel.no (ringAdopts t s) hc, h.inv, h.nm, h.tot⟩
theorem EP.moved {w w' w1 : World} {X t : Nat} {l : List Int} {s s' : Ring} (h : EP w w' X t l s) (hm : Moves s s') (hr : PRel w w1 X (fun S wr => RingIn S wr t s') (rf s')) : EP w w1 X t l s' :=
  ⟨hr, hm.inv, hm.nm.trans h.nm, by have := hm.tot; have := h.tot; omega⟩

theorem elErr_rng (l : List Int) : 0 ≤ elErr l ∧ elErr l ≤ 9 := by
  have hf : ∀ n, 0 ≤ firstErr (chkName l) n ∧ firstErr (chkName l) n ≤ 9 := fun n => by
    by_cases h : ∀ j, j < n → chkName l j = 0
    · rw [firstErr_none h]; omega
    · obtain ⟨j, hj, hne, hlt⟩ : ∃ j, j < n ∧ chkName l j ≠ 0 ∧ ∀ i, i < j → chkName l i = 0 := by
        have hex : ∃ j, j < n ∧ chkName l j ≠ 0 := Classical.byContradiction fun hn => h fun j hj => Classical.byContradiction fun hc => hn ⟨j, hj, hc⟩
        obtain ⟨j, hj, hc⟩ := hex
        induction j using Nat.strongRecOn with
        | _ j ih =>
          by_cases hall : ∀ i, i < j → chkName l i = 0
          · exact ⟨j, hj, hc, hall⟩
          · obtain ⟨i, hi, hci⟩ : ∃ i, i < j ∧ chkName l i ≠ 0 := Classical.byContradiction fun hn => hall fun i hi => Classical.byContradiction fun hc => hn ⟨i, hi, hc⟩
            exact ih i hi (by omega) hci
      rw [firstErr_at hne hj hlt]
      unfold chkName
      (repeat' split) <;> omega
  unfold elErr
  split
  · omega
  · split
    · omega
    · exact hf _
theorem bgErr_rng (s : Ring) (x : Int) : 0 ≤ s.bgErr x ∧ s.bgErr x ≤ 9 := by
  unfold Ring.bgErr
  (repeat' split) <;> omega
theorem stErr_rng (s : Ring) (x : Int) : 0 ≤ s.stErr x ∧ s.stErr x ≤ 9 := by
  unfold Ring.stErr
  (repeat' split) <;> omega

set_option maxHeartbeats 8000000 in
set_option maxRecDepth 100000 in
theorem eplays_walk (v sv : Value) (l sc : List Int) (w : World) (hg : As.Met w) (hr : Rd (fun k => k < w.heap.size) w v l) (hs : Rd (fun k => k < w.heap.size) w sv sc) (hlb : l.length ≤ 9223372036854775807) (hsb : sc.length ≤ 9223372036854775807)
    (hwf : ∀ j, j < sc.length → -9223372036854775808 ≤ sc.getD j 0 ∧ sc.getD j 0 ≤ 9223372036854775807) :
    Calls Tryd.prog 3 #[v, sv] w fun e w' => e = .returned (.bool true) ∧ Chg (NewB w) w w' := by
  have HG := Lib.hid hg
  have HR := Lib.hid hr
  have HS := Lib.hid hs
  have HWF := Lib.hid hwf
  have HLB := Lib.hid hlb
  clear hg hr hs hwf
  go_enter Tryd.func3, Tryd.ntmps3
  go_wp2_with fail
  refine (newRing_ref _ v l w HR.out hlb).mono ?_
  rintro e w1 ⟨us, rfl, hul, hu1, hc1, hgood⟩
  have HUL := Lib.hid hul
  have HU1 := Lib.hid hu1
  have HC1 := Lib.hid hc1
  have HGOOD := Lib.hid hgood
  have HER := Lib.hid (elErr_rng l)
  have HEZ : Hid (∀ h : elErr l = 0, RdS (More (fun k => k < w.heap.size) w) w1 us (rf (Ring.init l))) := Lib.hid hgood
  obtain ⟨ec, hEC⟩ : ∃ ec, Hid (elErr l = ec) := ⟨_, Lib.hid rfl⟩
  rw [hEC.out]
  clear hul hu1 hc1 hgood hlb
  go_wp2_with (refine wpList_plain rfl (fun K hK => wp_storeT aggRing _ _ rfl w1.heap.size us [.slice none 0 0, .int .i64 0, .slice none 0 0, .int .i64 0, .int .i64 0] (by rfl) (by rfl) HUL.out (Blk.alloc w1 [.slice none 0 0, .int .i64 0, .slice none 0 0, .int .i64 0, .int .i64 0] 25) rfl HU1.out ?_); intro w2 hB2 hc2; have HB2 := Lib.hid hB2; have HC2 := Lib.hid hc2; clear hB2 hc2; refine hK _ _ ?_; clear hK)
  have HC02 : Hid (Chg NoF w w2) := Lib.hid ((HC1.out.alloc (.cells #[.slice none 0 0, .int .i64 0, .slice none 0 0, .int .i64 0, .int .i64 0] 25)).trans2 HC2.out fun i _ hi => .inr (by have hi : i = w1.heap.size := hi; have := HC1.out.size; omega))
  refine (new_any _ v l w2 (HR.out.keep HC02.out fun _ _ h => h) HLB.out).mono ?_
  rintro e w3 ⟨hc3, hnew⟩
  have HC3 := Lib.hid hc3
  clear hc3
  rcases hnew with ⟨hne, rfl⟩ | ⟨hok, t, rfl, hin⟩
  · rw [hEC.out] at hne ⊢
    have hE : errV ec = .iface 52 (.int .i64 ec) := by unfold errV; rw [if_neg hne]
    have hec : (ec != 0) = true := by rw [bne_iff_ne]; exact hne
    have hb := HER.out
    rw [hEC.out] at hb
    have HERR := Lib.hid (error_any ec ec (by omega) (by omega) w3 (HG.out.no (HC02.out.trans HC3.out)))
    rw [hE] at HERR ⊢
    clear hne hb hE
    go_wp2_with fail
    refine HERR.out.mono ?_
    rintro e w4 ⟨rfl, hc4⟩
    simp only [decide_true]
    go_wp2
    go_ret
    exact ⟨rfl, ((HC02.out.trans HC3.out).trans hc4).ofNo⟩
  rw [hEC.out] at hok
  subst hok
  have HP0 : Hid (EP w w3 w1.heap.size t l (Ring.init l)) := Lib.hid (by
    have h0 := EInv.init hEC.out
    have hz1 := HC1.out.size
    have hz2 : w1.heap.size < w2.heap.size := HB2.out.lt
    refine ⟨⟨⟨fun b => b < w2.heap.size, us, fun b hb => Nat.lt_of_lt_of_le hb HC02.out.size, hz2, hin, HB2.out.keep HC3.out (fun h => h), ?_⟩, (HC02.out.trans HC3.out).ofNo, by omega⟩, h0.1, rfl, ?_⟩
    · have h1 := (HEZ.out hEC.out).mono (S' := fun b => b < w2.heap.size ∧ b ≠ w1.heap.size) (fun b hb _ => ⟨by omega, by omega⟩)
      have h2 := (h1.keep ((Chg.refl NoF w1).alloc (.cells #[.slice none 0 0, .int .i64 0, .slice none 0 0, .int .i64 0, .int .i64 0] 25)) (fun _ _ h => h)).keep HC2.out (fun b hb e => hb.2 e)
      exact h2.keep HC3.out (fun _ _ h => h)
    · show 2 * (0 + pot (Ring.init l)) ≤ _
      have := h0.2; omega)
  obtain ⟨hl0, hl5, -, -⟩ := elErr_ok hEC.out
  obtain ⟨X, HX⟩ : ∃ X, Hid (w1.heap.size = X) := ⟨_, Lib.hid rfl⟩
  rw [HX.out] at HP0 ⊢
  clear hin HUL HU1 HC1 HGOOD HER HEZ HB2 HC2 HC02 HC3
  obtain ⟨pv, cv, rfl⟩ := HR.out.val
  obtain ⟨ps, cs, rfl⟩ := HS.out.val
  obtain ⟨n, hN⟩ : ∃ n, Hid (l.length = n) := ⟨_, Lib.hid rfl⟩
  obtain ⟨sl, hSL⟩ : ∃ sl, Hid (sc.length = sl) := ⟨_, Lib.hid rfl⟩
  rw [hN.out] at hl0 hl5 HR
  rw [hSL.out] at hsb HS HWF
  rw [hN.out, hSL.out]
  go_wp2_with fail
  go_loopw [9, 10, 11, 12, 13, 14] (fun i _ _ _ _ _ wr => ∃ k : Nat, k ≤ sl ∧ k ≤ 150 ∧ i = .int .i64 k ∧ ∃ s, Hid (EP w wr X t l s)) (fun i _ _ _ _ _ _ => 150 - (intOf i).toNat)
  case atStart => exact ⟨0, Nat.zero_le _, Nat.zero_le _, rfl, _, HP0⟩
  case round =>
    clear HP0
    obtain ⟨k, hksl, hk150, rfl, s, HP⟩ := hrel
    by_cases hlt : k < sl ∧ k < 150
    · obtain ⟨hlt1, hlt2⟩ := hlt
      obtain ⟨b, off, c, e1, hbS, hc⟩ := HS.out.form (by rw [hSL.out]; omega)
      simp only [Value.slice.injEq] at e1
      obtain ⟨rfl, -, rfl⟩ := e1
      have dw := hc k (by rw [hSL.out]; omega)
      have hb := HWF.out k hlt1
      obtain ⟨x, hX⟩ : ∃ x, Hid (sc.getD k 0 = x) := ⟨_, Lib.hid rfl⟩
      rw [hX.out] at dw hb
      obtain ⟨hb1, hb2⟩ := hb
      have HBL : Hid (b < w.heap.size) := Lib.hid (World.block_lt_of_cell? w _ dw)
      have HBX1 : Hid (b ≠ X) := Lib.hid (fun e => HP.out.rel.nX (by rw [← e]; exact HBL.out))
      have d0 := HP.out.rel.chg.cell_some dw (fun hn => hn HBL.out)
      have hk1 : (k : Int) < sl := by omega
      have hk2 : (k : Int) < 150 := by omega
      have HKK : Hid (k < sl ∧ k < 150) := Lib.hid ⟨hlt1, hlt2⟩
      clear hc hlt1 hlt2 hksl hk150
      go_upto_if 48 with fail
      go_cut [10, 11, 12, 13] (fun _ _ _ _ wx => ∃ s', Hid (EP w wx X t l s'))
      case first =>
        obtain ⟨S1, us, hS1, hBX, hRD, hput⟩ := HP.out.rel.doc (ringAdopts t s)
        have HS1 := Lib.hid hS1
        have HBX := Lib.hid hBX
        have HRD := Lib.hid hRD
        have HPUT := Lib.hid hput
        have HUL : Hid (us.length = 5) := Lib.hid hRD.len
        have HSENT : Hid ((s.sent : Int) < 1000000) := Lib.hid (by have := HP.out.sent; omega)
        clear hS1 hBX hRD hput
        by_cases hx0 : 0 ≤ x
        · have hxd : decide (0 ≤ x) = true := decide_eq_true hx0
          have HER := Lib.hid (bgErr_rng s x)
          have HSR := Lib.hid (fun wq (h : RdS S1 wq us (rf s)) => begin_ref S1 wq us s h HP.out.good x)
          have HNT := Lib.hid (fun S5 w5 (h : RingIn S5 w5 t s) => begin_any S5 w5 t s h x HSENT.out)
          have HMV := Lib.hid (Moves.beg HP.out.inv x)
          obtain ⟨s2, HS2⟩ : ∃ s2, Hid (s.beg x = s2) := ⟨_, Lib.hid rfl⟩
          obtain ⟨ke, HKE⟩ : ∃ ke, Hid (s.bgErr x = ke) := ⟨_, Lib.hid rfl⟩
          unfold BegPost at HNT
          rw [HS2.out] at HSR HNT HMV
          rw [HKE.out] at HSR HNT HER
          rw [hxd]
          clear hxd
          go_upto_region 9 with fail
          go_cut [10, 11] (fun y ce wx => ∃ Y, y = .pointer (some ⟨Y, 0, none⟩) ∧ ce = .int .i64 ke ∧ Hid (YR S1 wr wx Y (rf s2)))
          case first =>
            refine wp_region_pl (Chg NoF wr) 12 (.q 0 (.q 1 (.q 2 (.q 3 (.q 4 (.b2 5 9 (.q 6 (.q 7 (.q 8 (.l 9 (.l 10 (.q 11 .nil)))))) (.l 5 (.q 6 (.q 7 (.q 8 (.l 10 (.q 11 .nil)))))))))))) mixed (by kernel_rfl) (Chg.refl _ wr).drew ?_
            refine wpPl_quiet (by simp only [opAt, List.getElem?_cons_zero, List.getElem?_cons_succ, Option.getD_some]; rfl) (by rfl) (by exact fun _ _ _ h => h) (fun w1 hS => quiet_loadT aggRing _ rfl X us (by rfl) (HBX.out.keep hS (fun h => h)) HUL.out) ?_; (simp only [Act.put, List.setIfInBounds_toArray, List.set_cons_zero, List.set_cons_succ])
            iterate 4 (refine wpPl_quiet (v := ?_) (by simp only [opAt, List.getElem?_cons_zero, List.getElem?_cons_succ, Option.getD_some]; rfl) (by rfl) (by exact fun _ _ _ h => h) (by intro w1 hS; have s0 := hS.cell_some d0 (fun h => h); clear hS; go_simp; with_reducible rfl) ?_; (simp only [Act.put, List.setIfInBounds_toArray, List.set_cons_zero, List.set_cons_succ]))
            refine wpPl_b2 (by simp only [opAt, List.getElem?_cons_zero, List.getElem?_cons_succ, Option.getD_some]; rfl) (by rfl) (by simp only [opAt, List.getElem?_cons_zero, List.getElem?_cons_succ, Option.getD_some]; rfl) (by rfl) (fun K hK => ?_) (fun K hK => ?_)
            · go_simp
              refine (HSR.out _ (HRD.out.keep ((Chg.refl NoF wr).drew) (fun _ _ h => h))).mono ?_
              rintro e w1 ⟨v1, rfl, us1, rfl, hr1, hc1⟩
              have hcz1 : Chg NoF wr w1 := ((Chg.refl NoF wr).drew).trans hc1
              refine hK _ _ (fun _ => hcz1) ?_
              clear hK
              (try simp only [Act.put, List.setIfInBounds_toArray, List.set_cons_zero, List.set_cons_succ])
              iterate 3 (refine wpPl_quiet (v := ?_) (by simp only [opAt, List.getElem?_cons_zero, List.getElem?_cons_succ, Option.getD_some]; rfl) (by rfl) (by exact fun _ _ _ h => h) (by intro w1 hS; clear hS; go_simp; with_reducible rfl) ?_; (simp only [Act.put, List.setIfInBounds_toArray, List.set_cons_zero, List.set_cons_succ]))
              refine wpPl_l (by simp only [opAt, List.getElem?_cons_zero, List.getElem?_cons_succ, Option.getD_some]; rfl) (by rfl) (fun K hK => ?_)
              go_simp
              refine hK _ _ (fun _ => hcz1.alloc _) ?_
              clear hK
              (try simp only [Act.put, List.setIfInBounds_toArray, List.set_cons_zero, List.set_cons_succ])
              refine wpPl_l (by simp only [opAt, List.getElem?_cons_zero, List.getElem?_cons_succ, Option.getD_some]; rfl) (by rfl) (fun K hK => ?_)
              refine wp_storeT aggRing _ _ rfl w1.heap.size us1 [.slice none 0 0, .int .i64 0, .slice none 0 0, .int .i64 0, .int .i64 0] (by rfl) (by rfl) hr1.len (Blk.alloc w1 [.slice none 0 0, .int .i64 0, .slice none 0 0, .int .i64 0, .int .i64 0] 25) rfl hr1.one ?_
              intro wz hBz hcz
              have hyr := Lib.hid (YR.mk1 (S1 := S1) (zs := [.slice none 0 0, .int .i64 0, .slice none 0 0, .int .i64 0, .int .i64 0]) hcz1 hr1 25 hBz hcz)
              refine hK _ _ (fun _ => hyr.out.chg) ?_
              clear hK
              (try simp only [Act.put, List.setIfInBounds_toArray, List.set_cons_zero, List.set_cons_succ])
              (refine wpPl_quiet (v := ?_) (by simp only [opAt, List.getElem?_cons_zero, List.getElem?_cons_succ, Option.getD_some]; rfl) (by rfl) (by exact fun _ _ _ h => h) (by intro w1 hS; clear hS; go_simp; with_reducible rfl) ?_; (simp only [Act.put, List.setIfInBounds_toArray, List.set_cons_zero, List.set_cons_succ]))
              refine wpPl_nil ?_
              clear hBz hcz hcz1 hr1 hc1
              go_wp2_with fail
              go_meet
              case rel => exact ⟨w1.heap.size, rfl, rfl, hyr⟩
            · go_simp
              refine hK _ _ (fun _ => ((Chg.refl NoF wr).drew).alloc _) ?_
              clear hK
              (try simp only [Act.put, List.setIfInBounds_toArray, List.set_cons_zero, List.set_cons_succ])
              refine wpPl_l (by simp only [opAt, List.getElem?_cons_zero, List.getElem?_cons_succ, Option.getD_some]; rfl) (by rfl) (fun K hK => ?_)
              go_simp
              refine (HSR.out _ (HRD.out.keep (((Chg.refl NoF wr).drew).alloc _) (fun _ _ h => h))).mono ?_
              rintro e w1 ⟨v1, rfl, us1, rfl, hr1, hc1⟩
              have hcz1 : Chg NoF wr w1 := (((Chg.refl NoF wr).drew).alloc _).trans hc1
              refine hK _ _ (fun _ => hcz1) ?_
              clear hK
              (try simp only [Act.put, List.setIfInBounds_toArray, List.set_cons_zero, List.set_cons_succ])
              iterate 3 (refine wpPl_quiet (v := ?_) (by simp only [opAt, List.getElem?_cons_zero, List.getElem?_cons_succ, Option.getD_some]; rfl) (by rfl) (by exact fun _ _ _ h => h) (by intro w1 hS; clear hS; go_simp; with_reducible rfl) ?_; (simp only [Act.put, List.setIfInBounds_toArray, List.set_cons_zero, List.set_cons_succ]))
              refine wpPl_l (by simp only [opAt, List.getElem?_cons_zero, List.getElem?_cons_succ, Option.getD_some]; rfl) (by rfl) (fun K hK => ?_)
              refine wp_storeT aggRing _ _ rfl wr.heap.size us1 [.slice none 0 0, .int .i64 0, .slice none 0 0, .int .i64 0, .int .i64 0] (by rfl) (by rfl) hr1.len ((Blk.alloc wr.drew [.slice none 0 0, .int .i64 0, .slice none 0 0, .int .i64 0, .int .i64 0] 25).keep hc1 (fun h => h)) rfl hr1.one ?_
              intro wz hBz hcz
              have hyr := Lib.hid ((YR.mk2 (S1 := S1) (w := wr.drew) (Y := wr.heap.size) (zs := [.slice none 0 0, .int .i64 0, .slice none 0 0, .int .i64 0, .int .i64 0]) rfl HS1.out 25 hc1 hr1 hBz hcz).ofDrew)
              refine hK _ _ (fun _ => hyr.out.chg) ?_
              clear hK
              (try simp only [Act.put, List.setIfInBounds_toArray, List.set_cons_zero, List.set_cons_succ])
              (refine wpPl_quiet (v := ?_) (by simp only [opAt, List.getElem?_cons_zero, List.getElem?_cons_succ, Option.getD_some]; rfl) (by rfl) (by exact fun _ _ _ h => h) (by intro w1 hS; clear hS; go_simp; with_reducible rfl) ?_; (simp only [Act.put, List.setIfInBounds_toArray, List.set_cons_zero, List.set_cons_succ]))
              refine wpPl_nil ?_
              clear hBz hcz hcz1 hr1 hc1
              go_wp2_with fail
              go_meet
              case rel => exact ⟨wr.heap.size, rfl, rfl, hyr⟩
          case rest =>
            obtain ⟨Y, rfl, rfl, HY⟩ := hcut
            obtain ⟨us', hcY, hBY, hRY⟩ := HY.out
            have HYC := Lib.hid hcY
            have HYB := Lib.hid hBY
            have HYR := Lib.hid hRY
            have HXC : Hid (Blk wc X us) := Lib.hid (HBX.out.keep hcY (fun h => h))
            have d0c := hcY.cell_some d0 (fun h => h)
            clear hcY hBY hRY HY d0 HBX HRD HSR
            go_wp2_with (first
              | (refine wpList_plain rfl (fun K hK => wp_loadT aggRing _ rfl Y us' (by rfl) HYB.out HYR.out.len ?_); refine hK _ _ ?_; clear hK)
              | (refine wpList_plain rfl (fun K hK => wp_storeT aggRing _ _ rfl X us' us (by rfl) (by rfl) HYR.out.len HXC.out HUL.out HYR.out.one ?_); intro w5 hB5 hc5; have HP5 := Lib.hid (HPUT.out _ _ _ _ HYC.out HYR.out hB5 hc5); have d05 := hc5.cell_some d0c HBX1.out; clear hB5 hc5; refine hK _ _ ?_; clear hK))
            obtain ⟨S5, hin5, hstep5⟩ := HP5.out.net
            refine (HNT.out S5 w5 hin5).mono ?_
            rintro e w6 ⟨rfl, hin6, hc6⟩
            have HP6 : Hid (EP w w6 X t l s2) := Lib.hid (HP.out.moved HMV.out (hstep5 w6 (fun S wr => RingIn S wr t s2) hin6 hc6))
            clear hin5 hstep5 hin6 hc6 HP5 d05 d0c HNT HPUT HP
            go_wp2_with fail
            refine (error_any ke ke (by have := HER.out; omega) (by have := HER.out; omega) w6 (HG.out.new HP6.out.rel.chg)).mono ?_
            rintro e w7 ⟨rfl, hc7⟩
            have HP7 := Lib.hid (HP6.out.no hc7)
            simp only [decide_true]
            clear hc7 HP6
            go_wp2_with fail
            go_meet
            case rel => exact ⟨s2, HP7⟩
        · have hx1 : x < 0 := by omega
          have hxd : decide (0 ≤ x) = false := decide_eq_false hx0
          obtain ⟨y, hY⟩ : ∃ y, Hid (-1 - x = y) := ⟨_, Lib.hid rfl⟩
          have hwx1 : IntKind.i64.wrap (-1 - x) = y := by rw [← hY.out]; exact IntWalk.i64_in _ (by omega)
          have hwx2 : wrap64 (-1 - x) = y := by rw [← hY.out]; exact IntWalk.wrap64_in _ (by omega)
          clear hb1 hb2 hx1 hx0
          have HER := Lib.hid (stErr_rng s y)
          have HSR := Lib.hid (fun wq (h : RdS S1 wq us (rf s)) => step_ref S1 wq us s h HP.out.good y)
          have HNT := Lib.hid (fun S5 w5 (h : RingIn S5 w5 t s) => step_any S5 w5 t s h y HSENT.out)
          have HMV := Lib.hid (Moves.step HP.out.inv y).1
          obtain ⟨s2, HS2⟩ : ∃ s2, Hid (s.step y = s2) := ⟨_, Lib.hid rfl⟩
          obtain ⟨ke, HKE⟩ : ∃ ke, Hid (s.stErr y = ke) := ⟨_, Lib.hid rfl⟩
          unfold StepPost at HNT
          rw [HS2.out] at HSR HNT HMV
          rw [HKE.out] at HSR HNT HER
          rw [hxd]
          clear hxd
          go_upto_region 13 with fail
          go_cut [12, 13] (fun y ce wx => ∃ Y, y = .pointer (some ⟨Y, 0, none⟩) ∧ ce = .int .i64 ke ∧ Hid (YR S1 wr wx Y (rf s2)))
          case first =>
            refine wp_region_pl (Chg NoF wr) 13 (.q 0 (.q 1 (.q 2 (.q 3 (.q 4 (.q 5 (.b2 6 10 (.q 7 (.q 8 (.q 9 (.l 10 (.l 11 (.q 12 .nil)))))) (.l 6 (.q 7 (.q 8 (.q 9 (.l 11 (.q 12 .nil))))))))))))) mixed (by kernel_rfl) (Chg.refl _ wr).drew ?_
            refine wpPl_quiet (by simp only [opAt, List.getElem?_cons_zero, List.getElem?_cons_succ, Option.getD_some]; rfl) (by rfl) (by exact fun _ _ _ h => h) (fun w1 hS => quiet_loadT aggRing _ rfl X us (by rfl) (HBX.out.keep hS (fun h => h)) HUL.out) ?_; (simp only [Act.put, List.setIfInBounds_toArray, List.set_cons_zero, List.set_cons_succ])
            iterate 5 (refine wpPl_quiet (v := ?_) (by simp only [opAt, List.getElem?_cons_zero, List.getElem?_cons_succ, Option.getD_some]; rfl) (by rfl) (by exact fun _ _ _ h => h) (by intro w1 hS; have s0 := hS.cell_some d0 (fun h => h); clear hS; go_simp; with_reducible rfl) ?_; (simp only [Act.put, List.setIfInBounds_toArray, List.set_cons_zero, List.set_cons_succ]))
            refine wpPl_b2 (by simp only [opAt, List.getElem?_cons_zero, List.getElem?_cons_succ, Option.getD_some]; rfl) (by rfl) (by simp only [opAt, List.getElem?_cons_zero, List.getElem?_cons_succ, Option.getD_some]; rfl) (by rfl) (fun K hK => ?_) (fun K hK => ?_)
            · go_simp
              refine (HSR.out _ (HRD.out.keep ((Chg.refl NoF wr).drew) (fun _ _ h => h))).mono ?_
              rintro e w1 ⟨v1, rfl, us1, rfl, hr1, hc1⟩
              have hcz1 : Chg NoF wr w1 := ((Chg.refl NoF wr).drew).trans hc1
              refine hK _ _ (fun _ => hcz1) ?_
              clear hK
              (try simp only [Act.put, List.setIfInBounds_toArray, List.set_cons_zero, List.set_cons_succ])
              iterate 3 (refine wpPl_quiet (v := ?_) (by simp only [opAt, List.getElem?_cons_zero, List.getElem?_cons_succ, Option.getD_some]; rfl) (by rfl) (by exact fun _ _ _ h => h) (by intro w1 hS; clear hS; go_simp; with_reducible rfl) ?_; (simp only [Act.put, List.setIfInBounds_toArray, List.set_cons_zero, List.set_cons_succ]))
              refine wpPl_l (by simp only [opAt, List.getElem?_cons_zero, List.getElem?_cons_succ, Option.getD_some]; rfl) (by rfl) (fun K hK => ?_)
              go_simp
              refine hK _ _ (fun _ => hcz1.alloc _) ?_
              clear hK
              (try simp only [Act.put, List.setIfInBounds_toArray, List.set_cons_zero, List.set_cons_succ])
              refine wpPl_l (by simp only [opAt, List.getElem?_cons_zero, List.getElem?_cons_succ, Option.getD_some]; rfl) (by rfl) (fun K hK => ?_)
              refine wp_storeT aggRing _ _ rfl w1.heap.size us1 [.slice none 0 0, .int .i64 0, .slice none 0 0, .int .i64 0, .int .i64 0] (by rfl) (by rfl) hr1.len (Blk.alloc w1 [.slice none 0 0, .int .i64 0, .slice none 0 0, .int .i64 0, .int .i64 0] 25) rfl hr1.one ?_
              intro wz hBz hcz
              have hyr := Lib.hid (YR.mk1 (S1 := S1) (zs := [.slice none 0 0, .int .i64 0, .slice none 0 0, .int .i64 0, .int .i64 0]) hcz1 hr1 25 hBz hcz)
              refine hK _ _ (fun _ => hyr.out.chg) ?_
              clear hK
              (try simp only [Act.put, List.setIfInBounds_toArray, List.set_cons_zero, List.set_cons_succ])
              (refine wpPl_quiet (v := ?_) (by simp only [opAt, List.getElem?_cons_zero, List.getElem?_cons_succ, Option.getD_some]; rfl) (by rfl) (by exact fun _ _ _ h => h) (by intro w1 hS; clear hS; go_simp; with_reducible rfl) ?_; (simp only [Act.put, List.setIfInBounds_toArray, List.set_cons_zero, List.set_cons_succ]))
              refine wpPl_nil ?_
              clear hBz hcz hcz1 hr1 hc1
              go_wp2_with fail
              go_meet
              case rel => exact ⟨w1.heap.size, rfl, rfl, hyr⟩
            · go_simp
              refine hK _ _ (fun _ => ((Chg.refl NoF wr).drew).alloc _) ?_
              clear hK
              (try simp only [Act.put, List.setIfInBounds_toArray, List.set_cons_zero, List.set_cons_succ])
              refine wpPl_l (by simp only [opAt, List.getElem?_cons_zero, List.getElem?_cons_succ, Option.getD_some]; rfl) (by rfl) (fun K hK => ?_)
              go_simp
              refine (HSR.out _ (HRD.out.keep (((Chg.refl NoF wr).drew).alloc _) (fun _ _ h => h))).mono ?_
              rintro e w1 ⟨v1, rfl, us1, rfl, hr1, hc1⟩
              have hcz1 : Chg NoF wr w1 := (((Chg.refl NoF wr).drew).alloc _).trans hc1
              refine hK _ _ (fun _ => hcz1) ?_
              clear hK
              (try simp only [Act.put, List.setIfInBounds_toArray, List.set_cons_zero, List.set_cons_succ])
              iterate 3 (refine wpPl_quiet (v := ?_) (by simp only [opAt, List.getElem?_cons_zero, List.getElem?_cons_succ, Option.getD_some]; rfl) (by rfl) (by exact fun _ _ _ h => h) (by intro w1 hS; clear hS; go_simp; with_reducible rfl) ?_; (simp only [Act.put, List.setIfInBounds_toArray, List.set_cons_zero, List.set_cons_succ]))
              refine wpPl_l (by simp only [opAt, List.getElem?_cons_zero, List.getElem?_cons_succ, Option.getD_some]; rfl) (by rfl) (fun K hK => ?_)
              refine wp_storeT aggRing _ _ rfl wr.heap.size us1 [.slice none 0 0, .int .i64 0, .slice none 0 0, .int .i64 0, .int .i64 0] (by rfl) (by rfl) hr1.len ((Blk.alloc wr.drew [.slice none 0 0, .int .i64 0, .slice none 0 0, .int .i64 0, .int .i64 0] 25).keep hc1 (fun h => h)) rfl hr1.one ?_
              intro wz hBz hcz
              have hyr := Lib.hid ((YR.mk2 (S1 := S1) (w := wr.drew) (Y := wr.heap.size) (zs := [.slice none 0 0, .int .i64 0, .slice none 0 0, .int .i64 0, .int .i64 0]) rfl HS1.out 25 hc1 hr1 hBz hcz).ofDrew)
              refine hK _ _ (fun _ => hyr.out.chg) ?_
              clear hK
              (try simp only [Act.put, List.setIfInBounds_toArray, List.set_cons_zero, List.set_cons_succ])
              (refine wpPl_quiet (v := ?_) (by simp only [opAt, List.getElem?_cons_zero, List.getElem?_cons_succ, Option.getD_some]; rfl) (by rfl) (by exact fun _ _ _ h => h) (by intro w1 hS; clear hS; go_simp; with_reducible rfl) ?_; (simp only [Act.put, List.setIfInBounds_toArray, List.set_cons_zero, List.set_cons_succ]))
              refine wpPl_nil ?_
              clear hBz hcz hcz1 hr1 hc1
              go_wp2_with fail
              go_meet
              case rel => exact ⟨wr.heap.size, rfl, rfl, hyr⟩
          case rest =>
            obtain ⟨Y, rfl, rfl, HY⟩ := hcut
            obtain ⟨us', hcY, hBY, hRY⟩ := HY.out
            have HYC := Lib.hid hcY
            have HYB := Lib.hid hBY
            have HYR := Lib.hid hRY
            have HXC : Hid (Blk wc X us) := Lib.hid (HBX.out.keep hcY (fun h => h))
            have d0c := hcY.cell_some d0 (fun h => h)
            clear hcY hBY hRY HY d0 HBX HRD HSR
            go_wp2_with (first
              | (refine wpList_plain rfl (fun K hK => wp_loadT aggRing _ rfl Y us' (by rfl) HYB.out HYR.out.len ?_); refine hK _ _ ?_; clear hK)
              | (refine wpList_plain rfl (fun K hK => wp_storeT aggRing _ _ rfl X us' us (by rfl) (by rfl) HYR.out.len HXC.out HUL.out HYR.out.one ?_); intro w5 hB5 hc5; have HP5 := Lib.hid (HPUT.out _ _ _ _ HYC.out HYR.out hB5 hc5); have d05 := hc5.cell_some d0c HBX1.out; clear hB5 hc5; refine hK _ _ ?_; clear hK))
            obtain ⟨S5, hin5, hstep5⟩ := HP5.out.net
            refine (HNT.out S5 w5 hin5).mono ?_
            rintro e w6 ⟨rfl, hin6, hc6⟩
            have HP6 : Hid (EP w w6 X t l s2) := Lib.hid (HP.out.moved HMV.out (hstep5 w6 (fun S wr => RingIn S wr t s2) hin6 hc6))
            clear hin5 hstep5 hin6 hc6 HP5 d05 d0c HNT HPUT HP
            go_wp2_with fail
            refine (error_any ke ke (by have := HER.out; omega) (by have := HER.out; omega) w6 (HG.out.new HP6.out.rel.chg)).mono ?_
            rintro e w7 ⟨rfl, hc7⟩
            have HP7 := Lib.hid (HP6.out.no hc7)
            simp only [decide_true]
            clear hc7 HP6
            go_wp2_with fail
            go_meet
            case rel => exact ⟨s2, HP7⟩
      case rest =>
      obtain ⟨s3, HP3⟩ := hcut
      clear HP d0 dw
      obtain ⟨S1, us, hS1, hBX, hRD, -⟩ := HP3.out.rel.doc (ringAdopts t s3)
      obtain ⟨S5, hin5, -⟩ := HP3.out.rel.net
      obtain ⟨na, nc, wa, wcc, rfl⟩ := rf_opn hRD
      have HLD := Lib.hid (leader_any S5 wc.drew t s3 (hin5.keep ((Chg.refl NoF wc).drew)))
      have HSN := Lib.hid (sent_any S5 wc.drew t s3 (hin5.keep ((Chg.refl NoF wc).drew)))
      have c3 : wc.cell? ⟨X, 3, none⟩ = some (.int .i64 s3.leader) := hBX.cell 3
      have c4 : wc.cell? ⟨X, 4, none⟩ = some (.int .i64 s3.sent) := hBX.cell 4
      obtain ⟨ld, HLE⟩ : ∃ ld, Hid (s3.leader = ld) := ⟨_, Lib.hid rfl⟩
      obtain ⟨sn, HSE⟩ : ∃ sn, Hid (s3.sent = sn) := ⟨_, Lib.hid rfl⟩
      rw [HLE.out] at HLD c3
      rw [HSE.out] at HSN c4
      have hl1 : (ld != ld) = false := by simp
      have hs1 : ((sn : Int) != (sn : Int)) = false := by simp
      clear hS1 hBX hRD hin5 hb1 hb2
      go_wp2_with fail
      refine wp_region_plan (Chg NoF wc) 12 [(0,true),(2,true),(3,true),(1,false),(4,true),(5,true),(6,true),(8,true),(9,true),(7,false),(10,true),(11,true)] mixed (by kernel_rfl) (Chg.refl _ _).drew ?_
      simp only [planOps, List.map_cons, List.map_nil, List.getElem?_cons_zero, List.getElem?_cons_succ, Option.getD_some]
      generalize hops : List.toArray _ = ops
      iterate 3 (refine wpPlan_quiet (v := ?_) rfl (fun _ _ _ h => h) (by intro w1 hS; have s0 := hS.cell_some c3 (fun h => h); clear hS; go_simp; with_reducible rfl) ?_; (simp only [Act.put, List.setIfInBounds_toArray, List.set_cons_zero, List.set_cons_succ]))
      refine wpPlan_loud rfl (fun K hK => ?_)
      go_simp
      refine HLD.out.mono ?_
      rintro e w4 ⟨rfl, rfl⟩
      refine hK _ _ (fun _ => (Chg.refl _ _).drew) ?_
      clear hK K
      (try simp only [Act.put, List.setIfInBounds_toArray, List.set_cons_zero, List.set_cons_succ])
      iterate 2 (refine wpPlan_quiet (v := ?_) rfl (fun _ _ _ h => h) (by intro w1 hS; clear hS; go_simp; with_reducible rfl) ?_; (simp only [Act.put, List.setIfInBounds_toArray, List.set_cons_zero, List.set_cons_succ]))
      iterate 3 (refine wpPlan_quietG (v := ?_) (by rw [← hops]; rfl) (fun _ _ _ h => h) (by intro w1 hS; have s0 := hS.cell_some c4 (fun h => h); clear hS; go_simp; with_reducible rfl) ?_; (simp only [Act.put, List.setIfInBounds_toArray, List.set_cons_zero, List.set_cons_succ]))
      refine wpPlan_loudG (by rw [← hops]; rfl) (fun K hK => ?_)
      go_simp
      refine HSN.out.mono ?_
      rintro e w4 ⟨rfl, rfl⟩
      refine hK _ _ (fun _ => (Chg.refl _ _).drew) ?_
      clear hK K
      (try simp only [Act.put, List.setIfInBounds_toArray, List.set_cons_zero, List.set_cons_succ])
      (refine wpPlan_quietG (v := ?_) (by rw [← hops]; rfl) (fun _ _ _ h => h) (by intro w1 hS; clear hS; go_simp; with_reducible rfl) ?_; (simp only [Act.put, List.setIfInBounds_toArray, List.set_cons_zero, List.set_cons_succ]))
      (refine wpPlan_quiet (v := ?_) rfl (fun _ _ _ h => h) (by intro w1 hS; clear hS; go_simp; with_reducible rfl) ?_; (simp only [Act.put, List.setIfInBounds_toArray, List.set_cons_zero, List.set_cons_succ]))
      clear hops
      refine wpPlan_nil ?_
      have HP4 := Lib.hid (HP3.out.no ((Chg.refl NoF wc).drew))
      clear c3 c4 hl1 hs1 HP3 HLD HSN
      generalize wc.drew = w4 at *
      go_wp2_with fail
      go_loopw [14] (fun i wr => ∃ p : Nat, p ≤ n ∧ i = .int .i64 p ∧ Hid (EP w wr X t l s3)) (fun i _ => n - (intOf i).toNat)
      case atStart => exact ⟨0, Nat.zero_le _, rfl, HP4⟩
      case round =>
        clear HP4
        obtain ⟨p, hpn, rfl, HP5⟩ := hrel
        by_cases hp : p < n
        · have hp1 : (p : Int) < n := by omega
          have HPN : Hid (p + 1 ≤ n) := Lib.hid hp
          have HNN : Hid (s3.names.length = n) := Lib.hid (by rw [HP5.out.nm]; exact hN.out)
          have HGD := Lib.hid HP5.out.good
          obtain ⟨S1, us, hS1, hBX, hRD, -⟩ := HP5.out.rel.doc (ringAdopts t s3)
          obtain ⟨S5, hin5, -⟩ := HP5.out.rel.net
          obtain ⟨na, nc, wa, wcc, rfl⟩ := rf_opn hRD
          have HWT := Lib.hid (ways_any S5 wr.drew t s3 (hin5.keep ((Chg.refl NoF wr).drew)) p (by have := HP5.out.sent; omega))
          have e0 : s3.tells p = s3.way p := by
            unfold Ring.tells; rw [if_pos (by simp [Ring.has, inB]; have := HNN.out; omega), Int.toNat_natCast]
          rw [e0] at HWT
          have c2 : wr.cell? ⟨X, 2, none⟩ = some (.slice wa s3.ways.length wcc) := hBX.cell 2
          have HWY : Rd2 S1 wr (.slice wa s3.ways.length wcc) s3.ways := RdS.at 2 hRD rfl rfl
          obtain ⟨bG, oG, cG, u, ev, dr, hru, hrl⟩ := HWY.at (Chg.refl NoF wr) (fun _ _ h => h) (j := p) (by rw [HGD.out.lw, HNN.out]; exact hp)
          rw [show s3.ways.getD p [] = s3.way p from rfl] at hru hrl
          simp only [Value.slice.injEq] at ev
          obtain ⟨rfl, -, rfl⟩ := ev
          rw [HGD.out.lw, HNN.out] at c2
          have HRU := Lib.hid hru
          have HRL := Lib.hid hrl
          obtain ⟨ua', uc', rfl⟩ := hru.val
          obtain ⟨gl, HGL⟩ : ∃ gl, Hid ((s3.way p).length = gl) := ⟨_, Lib.hid rfl⟩
          rw [HGL.out] at dr HRU
          clear hS1 hBX hRD hin5 e0 hru hrl hp hpn HWY
          go_wp2_with fail
          refine wp_region_plan (Chg NoF wr) 10 [(0,true),(1,true),(3,true),(4,true),(5,true),(6,true),(7,true),(2,false),(8,false),(9,true)] mixed (by kernel_rfl) (Chg.refl _ _).drew ?_
          simp only [planOps, List.map_cons, List.map_nil, List.getElem?_cons_zero, List.getElem?_cons_succ, Option.getD_some]
          generalize hops : List.toArray _ = ops
          iterate 7 (refine wpPlan_quiet (v := ?_) rfl (fun _ _ _ h => h) (by intro w1 hS; have s0 := hS.cell_some c2 (fun h => h); have s1 := hS.cell_some dr (fun h => h); clear hS; go_simp; with_reducible rfl) ?_; (simp only [Act.put, List.setIfInBounds_toArray, List.set_cons_zero, List.set_cons_succ]))
          refine wpPlan_loud rfl (fun K hK => ?_)
          go_simp
          refine HWT.out.mono ?_
          rintro e w7 ⟨vg, rfl, hrd, hc7⟩
          have HC7 : Hid (Chg NoF wr w7) := Lib.hid (((Chg.refl NoF wr).drew).trans hc7)
          have HGV := Lib.hid (hrd.mono (S' := fun _ => True) (fun _ _ _ => trivial))
          refine hK _ _ (fun _ => HC7.out) ?_
          clear hK K hrd hc7 HWT
          (try simp only [Act.put, List.setIfInBounds_toArray, List.set_cons_zero, List.set_cons_succ])
          refine wpPlan_loud rfl (fun K hK => ?_)
          go_simp
          refine (ints_any (fun _ => True) _ _ _ _ w7 HGV.out ((HRU.out.keep HC7.out (fun _ _ h => h)).mono (fun _ _ _ => trivial)) HRL.out HRL.out).mono ?_
          rintro e w8 ⟨rfl, kz, rfl⟩
          simp only [decide_true]
          refine hK _ _ (fun _ => HC7.out.drewN kz) ?_
          clear hK K
          (try simp only [Act.put, List.setIfInBounds_toArray, List.set_cons_zero, List.set_cons_succ])
          (refine wpPlan_quiet (v := ?_) rfl (fun _ _ _ h => h) (by intro w1 hS; clear hS; go_simp; with_reducible rfl) ?_; (simp only [Act.put, List.setIfInBounds_toArray, List.set_cons_zero, List.set_cons_succ]))
          clear hops
          refine wpPlan_nil ?_
          have HP6 : Hid (EP w (w7.drewN kz) X t l s3) := Lib.hid (HP5.out.no (HC7.out.drewN kz))
          clear c2 dr HP5
          generalize w7.drewN kz = w9 at *
          go_wp2
          go_roundw
          case rel => exact ⟨p + 1, HPN.out, by go_num, HP6⟩
          case measure => have := HPN.out; simp [intOf]; omega
        · have hp1 : ¬ (p : Int) < n := by omega
          clear hp hpn
          go_wp2
          go_roundw
          case rel => first | exact ⟨k + 1, HKK.out.1, HKK.out.2, by go_num, s3, HP5⟩ | ((repeat apply Exists.intro); exact ⟨⟨HKK.out.1, HKK.out.2, by go_num, HP5⟩, rfl⟩)
          case measure => have := HKK.out; simp [intOf]; omega
    · have hb : ¬ (k : Int) < sl ∨ ((k : Int) < sl ∧ ¬ (k : Int) < 150) := by omega
      clear hlt hksl hk150
      obtain ⟨S5, hin5, -⟩ := HP.out.rel.net
      have HNN : Hid (s.names.length = n) := Lib.hid (by rw [HP.out.nm]; exact hN.out)
      have e1 : s.tells (-1) = [] := by unfold Ring.tells; rw [if_neg (by simp [Ring.has, inB])]
      have e2 : s.tells n = [] := by unfold Ring.tells; rw [if_neg (by simp [Ring.has, inB]; have := HNN.out; omega)]
      have HW1 := Lib.hid (ways_any S5 wr t s hin5 (-1) (by have := HP.out.sent; omega))
      have HW2 := Lib.hid (fun w6 (h : RingIn S5 w6 t s) => ways_any S5 w6 t s h n (by have := HP.out.sent; omega))
      have HIN := Lib.hid hin5
      rw [e1] at HW1
      rw [e2] at HW2
      clear hin5 e1 e2
      rcases hb with hb | ⟨hb1, hb2⟩
      all_goals
        go_wp2_with fail
        refine HW1.out.mono ?_
        rintro e w5 ⟨v5, rfl, hr5, hc5⟩
        obtain ⟨a5, c5, rfl⟩ := hr5.val
        have hz : ((([] : List Int).length : Int) == 0) = true := rfl
        have HIN5 := Lib.hid (HIN.out.keep hc5)
        have HP5 := Lib.hid (HP.out.no hc5)
        clear hr5 hc5
        go_wp2_with fail
        refine (HW2.out w5 HIN5.out).mono ?_
        rintro e w6 ⟨v6, rfl, hr6, hc6⟩
        obtain ⟨a6, c6, rfl⟩ := hr6.val
        have HP6 := Lib.hid (HP5.out.no hc6)
        clear hr6 hc6
        go_wp2
        go_ret
        exact ⟨rfl, HP6.out.rel.chg⟩

end Go.Proofs.YtgpjjbfmckcjgaaDoor
