/-
  The wave that comes back: spreading, going back, stepping.
  Conditions: a wave as New made it, behind any steps.
-/
import Derived.Test.YtckgkgaoioigdaaDoorEcE
namespace Go.Proofs.YtckgkgaoioigdaaDoor
open Go Go.RowKit

def DonePost (S : Nat → Prop) (w : World) (t : Nat) (s' : Wv) (e : Ending) (w' : World) : Prop :=
  e = .returned (.tuple #[]) ∧ WIn S w' t s' ∧ Chg (fun k => ¬ S k) w w'
def ErrPost (S : Nat → Prop) (w : World) (t : Nat) (n : Int) (s' : Wv) (e : Ending) (w' : World) : Prop :=
  e = .returned (errV n) ∧ WIn S w' t s' ∧ Chg (fun k => ¬ S k) w w'

structure Bnd (s : Wv) (k : Int) : Prop where
  n1 : 1 ≤ s.n
  n5 : s.n ≤ 5
  ways : ∀ a b, a < s.n → b < s.n → 0 ≤ s.ways a b ∧ s.ways a b ≤ k
  sent : 0 ≤ s.sent ∧ s.sent ≤ 100 * k
  near : ∀ a, a < s.n → s.near a < 2 ^ 40

theorem bit_sum (n : Nat) (hn : n ≤ 5) (f : Nat → Bool) : 0 ≤ sumN n (fun b => b2i (f b)) ∧ sumN n (fun b => b2i (f b)) ≤ 5 := by
  have h1 := sum_le (n := n) (f := fun j => b2i (f j)) (g := fun _ => 1) (fun j _ => (b2i_le _).2)
  rw [sum_const] at h1
  have h2 := sum_nonneg (n := n) (f := fun j => b2i (f j)) (fun j _ => (b2i_le _).1)
  omega

theorem Bnd.spreadTo {s : Wv} {k : Int} (h : Bnd s k) (p m j : Nat) (hj : j ≤ s.n) : Bnd (s.spreadTo p m j) (k + 1) := by
  rw [spreadTo_eq]
  have hn := h.n5
  exact {
    n1 := h.n1
    n5 := h.n5
    near := h.near
    ways := fun a b ha hb => by
      have h1 := h.ways a b ha hb
      have h2 := b2i_le (m.testBit b)
      show 0 ≤ s.ways a b + (if a = p ∧ b < j then b2i (m.testBit b) else 0) ∧ s.ways a b + (if a = p ∧ b < j then b2i (m.testBit b) else 0) ≤ k + 1
      split <;> omega
    sent := by
      have h1 := h.sent
      have h2 := bit_sum j (by omega) (fun b => m.testBit b)
      show 0 ≤ s.sent + sumN j (fun b => b2i (m.testBit b)) ∧ s.sent + sumN j (fun b => b2i (m.testBit b)) ≤ 100 * (k + 1)
      omega }

theorem spreadTo_n (s : Wv) (p m j : Nat) : (s.spreadTo p m j).n = s.n := by rw [spreadTo_eq]

set_option maxHeartbeats 4000000 in
set_option maxRecDepth 100000 in
theorem spread_any (S : Nat → Prop) (w : World) (t : Nat) (s : Wv) (h : WIn S w t s) {kb : Int} (hb : Bnd s kb) (hk : kb ≤ 20) (p m : Nat) (hp : p < s.n) (hm : m < 2 ^ 40) :
    Calls Tryd.prog 22 #[.pointer (some ⟨t, 0, none⟩), .int .i64 p, .int .i64 m] w (DonePost S w t (s.spread p m)) := by
  have HB := Lib.hid hb
  have HSP : Hid (s.spread p m = s.spreadTo p m s.n) := Lib.hid rfl
  have HZ0 : Hid (WIn S w t (s.spreadTo p m 0) ∧ Chg (fun k => ¬ S k) w w) := Lib.hid ⟨h, Chg.refl _ _⟩
  obtain ⟨V, tag, h⟩ := h
  obtain ⟨bN, cN, _, _, _, c0⟩ := h.nearAt hb.n1
  obtain ⟨n, hN⟩ : ∃ n, Hid (s.n = n) := ⟨_, Lib.hid rfl⟩
  have hn5 := hb.n5
  rw [hN.out] at c0 hp hn5 HSP
  have hp1 : (p : Int) < n := by omega
  have HM := Lib.hid hm
  have HK := Lib.hid hk
  clear h hb hm hk
  go_enter Tryd.func22, Tryd.ntmps22
  go_wp2_with fail
  clear c0
  go_loopw [12] (fun i wr => ∃ j : Nat, j ≤ n ∧ i = .int .i64 j ∧ Hid (WIn S wr t (s.spreadTo p m j) ∧ Chg (fun k => ¬ S k) w wr)) (fun i _ => n - (intOf i).toNat)
  case atStart => exact ⟨0, Nat.zero_le _, rfl, HZ0⟩
  case round =>
    clear HZ0
    obtain ⟨j, hjn, rfl, HZ⟩ := hrel
    by_cases hj : j < n
    · have hj1 : (j : Int) < n := by omega
      have HJ : Hid (j + 1 ≤ n) := Lib.hid hj
      cases hbit : m.testBit j with
      | false =>
        have HE : Hid (s.spreadTo p m (j + 1) = s.spreadTo p m j) := Lib.hid (by rw [Wv.spreadTo, hbit]; rfl)
        have H1 := Lib.hid hbit
        clear hbit
        go_wp2_with fail
        refine (has_any m j HM.out (by omega) _).mono ?_
        rintro e w' ⟨rfl, rfl⟩
        rw [H1.out]
        have HZ2 : Hid (WIn S _ t (s.spreadTo p m (j + 1)) ∧ Chg (fun k => ¬ S k) w _) := Lib.hid (by rw [HE.out]; exact HZ.out)
        go_wp2
        go_roundw
        case rel => exact ⟨j + 1, HJ.out, by go_num, HZ2⟩
        case measure => have := HJ.out; simp [intOf]; omega
      | true =>
        have H1 := Lib.hid hbit
        obtain ⟨s1, HS1⟩ : ∃ x, Hid (s.spreadTo p m j = x) := ⟨_, Lib.hid rfl⟩
        have HE : Hid (s.spreadTo p m (j + 1) = { s1 with ways := put2 s1.ways p j (s1.ways p j + 1), sent := s1.sent + 1 }) := Lib.hid (by rw [Wv.spreadTo, hbit, HS1.out]; rfl)
        have hb1 := HB.out.spreadTo p m j (by rw [hN.out]; exact hjn)
        have hn1' := spreadTo_n s p m j
        rw [HS1.out] at hb1 hn1' HZ
        rw [hN.out] at hn1'
        obtain ⟨V, tag, h⟩ := HZ.out.1
        obtain ⟨g, cap, b, c, hvw, hv, c3, dg, hcell, hfr, nbt, ngb, hSb⟩ := h.wayAt (p := p) (by rw [hn1']; exact hp) hb1.n1
        have dx := hcell j (by rw [hn1']; exact hj)
        have fx : World.frozen? _ ⟨b, j, none⟩ = false := hfr j
        have f4 := h.blk.frozen 4
        obtain ⟨hx0, hx1⟩ := hb1.ways p j (by rw [hn1']; exact hp) (by rw [hn1']; exact hj)
        obtain ⟨hs0, hs1⟩ := hb1.sent
        have hk := HK.out
        have A1 := h.setWay (by rw [hn1']; exact hp) hv (by rw [hn1']; exact hj) (s1.ways p j + 1)
        have A2 := A1.setSent (s1.sent + 1)
        have HI : Hid (WIn S _ t (s.spreadTo p m (j + 1))) := Lib.hid (by rw [HE.out]; exact ⟨V, tag, A2⟩)
        have HC : Hid (Chg (fun k => ¬ S k) w _) := Lib.hid ((HZ.out.2.setCell (p := ⟨b, j, none⟩) (.inl hSb) (.int .i64 (s1.ways p j + 1))).setCell (p := ⟨t, 4, none⟩) (.inl h.tNotS) (.int .i64 (s1.sent + 1)))
        obtain ⟨x, HX⟩ : ∃ x, Hid (s1.ways p j = x) := ⟨_, Lib.hid rfl⟩
        obtain ⟨y, HY⟩ : ∃ x, Hid (s1.sent = x) := ⟨_, Lib.hid rfl⟩
        have c4 : World.cell? _ ⟨t, 4, none⟩ = some (.int .i64 s1.sent) := h.blk.cell 4
        rw [HX.out] at dx hx0 hx1 HI HC
        rw [HY.out] at c4 hs0 hs1 HI HC
        rw [hn1'] at c3 dg
        have hw1 : wrap64 (x + 1) = x + 1 := IntWalk.wrap64_in _ (by omega)
        have hw2 : wrap64 (y + 1) = y + 1 := IntWalk.wrap64_in _ (by omega)
        have nbt2 : ¬ t = b := fun e => nbt e.symm
        clear h hvw hv hcell hfr A1 A2 hb1 hn1' hSb hbit hx0 hx1 hs0 hs1 hk
        go_wp2_with fail
        refine (has_any m j HM.out (by omega) _).mono ?_
        rintro e w' ⟨rfl, rfl⟩
        rw [H1.out]
        go_wp2
        go_roundw
        case rel => exact ⟨j + 1, HJ.out, by go_num, Lib.hid ⟨HI.out, HC.out⟩⟩
        case measure => have := HJ.out; simp [intOf]; omega
    · obtain rfl : j = n := by omega
      have hj1 : ¬ (j : Int) < j := by omega
      go_wp2
      go_end0
      exact ⟨rfl, by rw [HSP.out]; exact HZ.out.1, HZ.out.2⟩

set_option maxHeartbeats 4000000 in
set_option maxRecDepth 100000 in
theorem back_any (S : Nat → Prop) (w : World) (t : Nat) (s : Wv) (h : WIn S w t s) {kb : Int} (hb : Bnd s kb) (hk : kb ≤ 20) (p : Nat) (hp : p < s.n) (hpar : p ≠ 0 → 0 ≤ s.parent p ∧ s.parent p < s.n) :
    Calls Tryd.prog 23 #[.pointer (some ⟨t, 0, none⟩), .int .i64 p] w (DonePost S w t (s.back p)) := by
  have HIN := Lib.hid h
  have HB := Lib.hid hb
  have HK := Lib.hid hk
  have HP := Lib.hid hp
  obtain ⟨V, tag, h⟩ := h
  obtain ⟨bN, cN, _, hnear, _, c0⟩ := h.nearAt hb.n1
  obtain ⟨bH, cH, _, hheard, _, _, _, c2⟩ := h.heardAt hb.n1
  obtain ⟨bP, cP, _, hparent, _, _, _, c1⟩ := h.parentAt hb.n1
  have dN := hnear p hp
  have dH := hheard p hp
  have dP := hparent p hp
  have f5 := h.blk.frozen 5
  have c5 : w.cell? ⟨t, 5, none⟩ = some (.bool s.done) := h.blk.cell 5
  obtain ⟨x, HX⟩ : ∃ x, Hid (s.heard p = x) := ⟨_, Lib.hid rfl⟩
  obtain ⟨y, HY⟩ : ∃ x, Hid (s.near p = x) := ⟨_, Lib.hid rfl⟩
  rw [HX.out] at dH
  rw [HY.out] at dN
  have A1 := h.setDone true
  have HI1 : Hid (WIn S (w.setCell ⟨t, 5, none⟩ (.bool true)) t { s with done := true }) := Lib.hid ⟨V, tag, A1⟩
  have HC1 : Hid (Chg (fun k => ¬ S k) w (w.setCell ⟨t, 5, none⟩ (.bool true))) := Lib.hid ((Chg.refl _ w).setCell (.inl h.tNotS) _)
  have hn5 := hb.n5
  obtain ⟨n, hN⟩ : ∃ n, Hid (s.n = n) := ⟨_, Lib.hid rfl⟩
  rw [hN.out] at c0 c1 c2 hp hn5 hpar
  have hp1 : (p : Int) < n := by omega
  clear h hnear hheard hparent A1 hb hk
  have HD : Hid (WIn S w.drew t s ∧ Chg (fun k => ¬ S k) w w.drew) := Lib.hid ⟨HIN.out.keep ((Chg.refl NoF w).drew), (Chg.refl _ w).drew⟩
  by_cases hxy : x = y
  · have hb1 : ((x : Int) != y) = false := by rw [hxy]; simp
    have HEQ : Hid (s.heard p = s.near p) := Lib.hid (by rw [HX.out, HY.out, hxy])
    by_cases h0 : p = 0
    · have HE : Hid (s.back p = { s with done := true }) := Lib.hid (by unfold Wv.back; rw [if_neg (fun h => h HEQ.out), if_pos h0])
      have hb2 : ((p : Int) == 0) = true := by rw [h0]; rfl
      have HI2 : Hid (WIn S (w.drew.setCell ⟨t, 5, none⟩ (.bool true)) t { s with done := true }) := Lib.hid (HI1.out.keep ((Chg.refl NoF _).drew))
      have HC2 : Hid (Chg (fun k => ¬ S k) w (w.drew.setCell ⟨t, 5, none⟩ (.bool true))) := Lib.hid (HC1.out.drew)
      have c5' : w.drew.cell? ⟨t, 5, none⟩ = some (.bool s.done) := c5
      have f5' : w.drew.frozen? ⟨t, 5, none⟩ = false := f5
      clear h0 hxy
      go_enter Tryd.func23, Tryd.ntmps23
      go_wp2_with fail
      refine wp_region_plan (Chg NoF w) 16 [(0,true),(1,true),(2,true),(3,true),(4,true),(5,true),(6,true),(7,true),(8,true),(9,true),(10,true),(11,true),(12,true),(13,true),(14,true),(15,true)] mixed (by kernel_rfl) (Chg.refl _ _).drew ?_
      simp only [planOps, List.map_cons, List.map_nil, List.getElem?_cons_zero, List.getElem?_cons_succ, Option.getD_some]
      generalize hops : List.toArray _ = ops
      iterate 16 (refine wpPlan_quiet (v := ?_) rfl (fun _ _ _ h => h) (by intro w1 hS; have s0 := hS.cell_some c2 (fun h => h); have s1 := hS.cell_some dH (fun h => h); have s2 := hS.cell_some c0 (fun h => h); have s3 := hS.cell_some dN (fun h => h); clear hS; go_simp; with_reducible rfl) ?_; (simp only [Act.put, List.setIfInBounds_toArray, List.set_cons_zero, List.set_cons_succ]))
      clear hops
      refine wpPlan_nil ?_
      clear c0 c1 c2 dH dN dP
      generalize w.drew = wd at *
      go_wp2
      go_end0
      exact ⟨rfl, by rw [HE.out]; exact HI2.out, HC2.out⟩
    · obtain ⟨hpa, hpb⟩ := hpar h0
      obtain ⟨a, ha⟩ := Int.eq_ofNat_of_zero_le hpa
      have HE : Hid (s.back p = s.spread p (2 ^ a)) := Lib.hid (by unfold Wv.back; rw [if_neg (fun h => h HEQ.out), if_neg h0, ha]; rfl)
      have hb2 : ((p : Int) == 0) = false := by rw [beq_eq_false_iff_ne]; omega
      have han : a < n := by omega
      obtain ⟨m, HM⟩ : ∃ m : Nat, Hid (2 ^ a = m) := ⟨_, Lib.hid rfl⟩
      have hsh := shl_nat a (by omega)
      rw [HM.out] at hsh HE
      have HSD := Lib.hid (spread_any S w.drew t s HD.out.1 HB.out HK.out p m HP.out (by rw [← HM.out]; exact Nat.pow_lt_pow_right (by omega) (by omega)))
      rw [ha] at dP
      have dP : w.cell? ⟨bP, p, none⟩ = some (.int .i64 (a : Int)) := dP
      have c1' : w.drew.cell? ⟨t, 1, none⟩ = some (.slice (some ⟨bP, 0, none⟩) n cP) := c1
      have dP' : w.drew.cell? ⟨bP, p, none⟩ = some (.int .i64 (a : Int)) := dP
      clear h0 hxy hpa hpb ha hpar
      go_enter Tryd.func23, Tryd.ntmps23
      go_wp2_with fail
      refine wp_region_plan (Chg NoF w) 16 [(0,true),(1,true),(2,true),(3,true),(4,true),(5,true),(6,true),(7,true),(8,true),(9,true),(10,true),(11,true),(12,true),(13,true),(14,true),(15,true)] mixed (by kernel_rfl) (Chg.refl _ _).drew ?_
      simp only [planOps, List.map_cons, List.map_nil, List.getElem?_cons_zero, List.getElem?_cons_succ, Option.getD_some]
      generalize hops : List.toArray _ = ops
      iterate 16 (refine wpPlan_quiet (v := ?_) rfl (fun _ _ _ h => h) (by intro w1 hS; have s0 := hS.cell_some c2 (fun h => h); have s1 := hS.cell_some dH (fun h => h); have s2 := hS.cell_some c0 (fun h => h); have s3 := hS.cell_some dN (fun h => h); clear hS; go_simp; with_reducible rfl) ?_; (simp only [Act.put, List.setIfInBounds_toArray, List.set_cons_zero, List.set_cons_succ]))
      clear hops
      refine wpPlan_nil ?_
      clear c0 c1 c2 dH dN dP
      generalize w.drew = wd at *
      go_wp2_with fail
      refine HSD.out.mono ?_
      rintro e w3 ⟨rfl, hin, hcc⟩
      have HI3 := Lib.hid hin
      have HC3 := Lib.hid (HD.out.2.trans hcc)
      clear hin hcc HSD
      go_wp2
      go_end0
      exact ⟨rfl, by rw [HE.out]; exact HI3.out, HC3.out⟩
  · have hb1 : ((x : Int) != y) = true := by rw [bne_iff_ne]; omega
    have HE : Hid (s.back p = s) := Lib.hid (by unfold Wv.back; rw [if_pos (by rw [HX.out, HY.out]; exact hxy)])
    clear hxy
    go_enter Tryd.func23, Tryd.ntmps23
    go_wp2_with fail
    refine wp_region_plan (Chg NoF w) 16 [(0,true),(1,true),(2,true),(3,true),(4,true),(5,true),(6,true),(7,true),(8,true),(9,true),(10,true),(11,true),(12,true),(13,true),(14,true),(15,true)] mixed (by kernel_rfl) (Chg.refl _ _).drew ?_
    simp only [planOps, List.map_cons, List.map_nil, List.getElem?_cons_zero, List.getElem?_cons_succ, Option.getD_some]
    generalize hops : List.toArray _ = ops
    iterate 16 (refine wpPlan_quiet (v := ?_) rfl (fun _ _ _ h => h) (by intro w1 hS; have s0 := hS.cell_some c2 (fun h => h); have s1 := hS.cell_some dH (fun h => h); have s2 := hS.cell_some c0 (fun h => h); have s3 := hS.cell_some dN (fun h => h); clear hS; go_simp; with_reducible rfl) ?_; (simp only [Act.put, List.setIfInBounds_toArray, List.set_cons_zero, List.set_cons_succ]))
    clear hops
    refine wpPlan_nil ?_
    clear c0 c1 c2 dH dN dP
    go_wp2
    go_end0
    exact ⟨rfl, by rw [HE.out]; exact HD.out.1, HD.out.2⟩

end Go.Proofs.YtckgkgaoioigdaaDoor
