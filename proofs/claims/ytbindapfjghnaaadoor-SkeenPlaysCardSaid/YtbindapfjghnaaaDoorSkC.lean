/-
  The net that tells all the same in the same order: hearing.
  Conditions: a net as New made it, behind any deeds.
-/
import Derived.Test.YtbindapfjghnaaaDoorSkB
namespace Go.Proofs.YtbindapfjghnaaaDoor
open Go Go.RowKit

set_option maxHeartbeats 4000000 in
set_option maxRecDepth 100000 in
theorem hear_any (S : Nat → Prop) (w : World) (t g : Nat) (s : SNet) (h : SIn S w t g s) (hs : SPre s) (p k : Int) :
    Calls Tryd.prog 10 #[.pointer (some ⟨t, 0, none⟩), .int .i64 p, .int .i64 k] w (TwoPost S w t g (s.hearVal p k) (s.hearErr p k) (s.hear p k)) := by
  have HIN := Lib.hid h
  have HP := Lib.hid (is_any S w t g s h hs p k)
  have bad : ∀ n : Int, s.hearErr p k = n → n ≠ 0 → TwoPost S w t g (s.hearVal p k) (s.hearErr p k) (s.hear p k) (.returned (.tuple #[.int .i64 0, errV n])) w := fun n hn h0 =>
    ⟨by unfold SNet.hearVal; rw [if_neg (by rw [hn]; exact h0), hn], by unfold SNet.hear; rw [if_neg (by rw [hn]; exact h0)]; exact HIN.out, Chg.refl _ _⟩
  have BAD := Lib.hid bad
  clear bad
  cases hip : s.is p k with
  | false =>
    have hE : Hid (s.hearErr p k = 1) := Lib.hid (by unfold SNet.hearErr; rw [if_pos hip])
    rw [hip] at HP
    clear h hs hip
    go_enter Tryd.func10, Tryd.ntmps10
    go_wp2_with fail
    refine HP.out.mono ?_
    rintro e w' ⟨rfl, rfl⟩
    go_wp2
    go_ret2
    exact BAD.out 1 hE.out (by decide)
  | true =>
  rw [hip] at HP
  obtain ⟨a, b, rfl, rfl, ha, hb⟩ := (s.is_iff p k).1 hip
  have HIP := Lib.hid hip
  obtain ⟨V, tag, ⟨cN, vN⟩, h⟩ := h
  obtain ⟨gA, cA, bA, cB, vA, vB, c1, d1, hcell, hfr, nbt, ngt, ngb, hSb, nclk⟩ := h.atAt hb hs.n1
  obtain ⟨bC, cC, vC, hclk, hclkf, nCt, hSC, c0⟩ := h.clkAt hs.n1
  obtain ⟨e0, e1, e2⟩ := hcell a ha
  obtain ⟨x, HX⟩ : ∃ x, Hid (s.here b a = x) := ⟨_, Lib.hid rfl⟩
  rw [HX.out] at e1
  have HH := Lib.hid h
  have HN := Lib.hid vN
  have HVC := Lib.hid vC
  have HVB := Lib.hid vB
  have HSB := Lib.hid hSb
  have HSC := Lib.hid hSC
  have HA := Lib.hid ha
  have HB := Lib.hid hb
  have kC := hclk a ha
  have fC : w.frozen? ⟨bC, a, none⟩ = false := hclkf a
  have f0 : w.frozen? ⟨bA, a * 3, none⟩ = false := hfr _
  have f1 : w.frozen? ⟨bA, a * 3 + 1, none⟩ = false := hfr _
  have f2 : w.frozen? ⟨bA, a * 3 + 2, none⟩ = false := hfr _
  have nCA : ¬ bC = bA := fun e => nclk (by rw [vC, e]; rfl)
  have nAC : ¬ bA = bC := fun e => nCA e.symm
  have ntA : ¬ t = bA := fun e => nbt e.symm
  have ntC : ¬ t = bC := fun e => nCt e.symm
  obtain ⟨hk0, hk1⟩ := hs.clk0 a ha
  have hk2 := (cnt_le s).2
  obtain ⟨y, HY⟩ : ∃ y, Hid (s.clk a = y) := ⟨_, Lib.hid rfl⟩
  rw [HY.out] at kC hk0 hk1
  have hwr : wrap64 (y + 1) = y + 1 := IntWalk.wrap64_in _ (by omega)
  have hn := hs.n4
  have hm := hs.m20
  obtain ⟨n, hN⟩ : ∃ n, Hid (s.n = n) := ⟨_, Lib.hid rfl⟩
  obtain ⟨m, hM⟩ : ∃ m, Hid (s.m = m) := ⟨_, Lib.hid rfl⟩
  rw [hN.out] at d1 hn ha c0
  rw [hM.out] at c1 hm hb
  have ha1 : (a : Int) < n := by omega
  have hb1 : (b : Int) < m := by omega
  clear h vN vA vB vC hcell hfr hclk hclkf hs hip hSb hSC nclk hk0 hk1 hk2 nbt ngt ngb nCt
  cases x with
  | true =>
    have hE : Hid (s.hearErr a b = 7) := Lib.hid (by unfold SNet.hearErr; rw [if_neg (by rw [HIP.out]; simp), Int.toNat_natCast, Int.toNat_natCast, if_pos HX.out])
    go_enter Tryd.func10, Tryd.ntmps10
    go_wp2_with fail
    refine HP.out.mono ?_
    rintro e w' ⟨rfl, rfl⟩
    go_wp2
    go_ret2
    exact BAD.out 7 hE.out (by decide)
  | false =>
    have hE : Hid (s.hearErr a b = 0) := Lib.hid (by unfold SNet.hearErr; rw [if_neg (by rw [HIP.out]; simp), Int.toNat_natCast, Int.toNat_natCast, if_neg (by rw [HX.out]; simp)])
    have hG : Hid (s.hear a b = s.hear0 a b ∧ s.hearVal a b = y + 1) := Lib.hid (by
      unfold SNet.hear SNet.hearVal; rw [if_pos hE.out, if_pos hE.out, Int.toNat_natCast, Int.toNat_natCast, HY.out]; exact ⟨rfl, rfl⟩)
    have A1 := HH.out.setClk HVC.out HA.out (y + 1)
    have A2 := SAt.setTm (s := { s with clk := put1 s.clk a (y + 1) }) A1 HB.out HVB.out HA.out (y + 1)
    have A3 := SAt.setHere (s := { s with clk := put1 s.clk a (y + 1), tm := put2 s.tm b a (y + 1) }) A2 HB.out HVB.out HA.out true
    have A4 := SAt.setFix (s := { s with clk := put1 s.clk a (y + 1), tm := put2 s.tm b a (y + 1), here := put2 s.here b a true }) A3 HB.out HVB.out HA.out false
    have HI : Hid (SIn S ((((w.setCell ⟨bC, a, none⟩ (.int .i64 (y + 1))).setCell ⟨bA, a * 3, none⟩ (.int .i64 (y + 1))).setCell ⟨bA, a * 3 + 1, none⟩ (.bool true)).setCell ⟨bA, a * 3 + 2, none⟩ (.bool false)) t g (s.hear a b)) := Lib.hid (by
      rw [hG.out.1]
      have e : s.hear0 a b = { s with clk := put1 s.clk a (y + 1), tm := put2 s.tm b a (y + 1), here := put2 s.here b a true, fix := put2 s.fix b a false } := by unfold SNet.hear0; rw [HY.out]
      rw [e]; exact ⟨V, tag, ⟨cN, HN.out⟩, A4⟩)
    have HC : Hid (Chg (fun k => ¬ S k) w ((((w.setCell ⟨bC, a, none⟩ (.int .i64 (y + 1))).setCell ⟨bA, a * 3, none⟩ (.int .i64 (y + 1))).setCell ⟨bA, a * 3 + 1, none⟩ (.bool true)).setCell ⟨bA, a * 3 + 2, none⟩ (.bool false))) := Lib.hid (((((Chg.refl _ w).setCell (.inl HSC.out) _).setCell (.inl HSB.out) _).setCell (.inl HSB.out) _).setCell (.inl HSB.out) _)
    clear A1 A2 A3 A4
    go_enter Tryd.func10, Tryd.ntmps10
    go_wp2_with fail
    refine HP.out.mono ?_
    rintro e w' ⟨rfl, rfl⟩
    go_wp2
    go_ret2
    exact ⟨by rw [hE.out, hG.out.2]; rfl, HI.out, HC.out⟩

end Go.Proofs.YtbindapfjghnaaaDoor
