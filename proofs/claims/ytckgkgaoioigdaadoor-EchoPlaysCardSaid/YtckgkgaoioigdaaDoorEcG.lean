/-
  The wave that comes back: a step, and what is told of it.
  Conditions: a wave as New made it, behind any steps.
-/
import Derived.Test.YtckgkgaoioigdaaDoorEcF
namespace Go.Proofs.YtckgkgaoioigdaaDoor
open Go Go.RowKit

theorem EInv.bnd {s : Wv} (h : EInv s) : Bnd s 1 where
  n1 := h.net.n1
  n5 := h.net.n5
  ways := fun a b ha hb => h.way01 ha hb
  near := fun a ha => Nat.lt_of_lt_of_le (h.net.lt a ha) (Nat.pow_le_pow_right (by omega) (by have := h.net.n5; omega))
  sent := by
    rw [h.sentI]
    refine ⟨sum2_nonneg fun p q _ _ => (b2i_le _).1, ?_⟩
    have h1 : ∀ p, p < s.n → sumN s.n (fun q => b2i (s.snt p q)) ≤ 5 := fun p _ => (bit_sum s.n h.net.n5 _).2
    have h2 := sum_le h1
    rw [sum_const] at h2
    have := h.net.n5
    show sumN s.n (fun p => sumN s.n fun q => b2i (s.snt p q)) ≤ 100 * 1
    omega

theorem Bnd.take {s : Wv} (h : Bnd s 1) {p q : Nat} (hw : s.ways p q = 1) : Bnd (s.take p q) 1 where
  n1 := h.n1
  n5 := h.n5
  near := h.near
  sent := h.sent
  ways := fun a b ha hb => by
    show 0 ≤ put2 s.ways p q (s.ways p q - 1) a b ∧ put2 s.ways p q (s.ways p q - 1) a b ≤ 1
    by_cases e : a = p ∧ b = q
    · obtain ⟨rfl, rfl⟩ := e
      rw [put2_self, hw]; omega
    · rw [put2_ne _ _ (by omega)]; exact h.ways a b ha hb

set_option maxHeartbeats 8000000 in
set_option maxRecDepth 100000 in
theorem step_any (S : Nat → Prop) (w : World) (t : Nat) (s : Wv) (h : WIn S w t s) (hI : EInv s) (p q : Int) :
    Calls Tryd.prog 10 #[.pointer (some ⟨t, 0, none⟩), .int .i64 p, .int .i64 q] w (ErrPost S w t (s.stepErr p q) (s.step p q)) := by
  have HIN := Lib.hid h
  have HIV := Lib.hid hI
  have hb := hI.bnd
  have bad : ∀ n : Int, s.stepErr p q = n → n ≠ 0 → ErrPost S w t (s.stepErr p q) (s.step p q) (.returned (errV n)) w := fun n hn h0 =>
    ⟨by rw [hn], by unfold Wv.step; rw [if_neg (by rw [hn]; exact h0)]; exact HIN.out, Chg.refl _ _⟩
  have BAD := Lib.hid bad
  clear bad
  obtain ⟨V, tag, h⟩ := h
  obtain ⟨bN, cN, -, hnear, nbNt, c0⟩ := h.nearAt hb.n1
  have hn5 := hb.n5
  have hn1 := hb.n1
  have HIS : Hid (s.is p q = (inB p 0 ((s.n : Int) - 1) && inB q 0 ((s.n : Int) - 1))) := Lib.hid rfl
  obtain ⟨n, hN⟩ : ∃ n, Hid (s.n = n) := ⟨_, Lib.hid rfl⟩
  rw [hN.out] at HIS
  have hw1 : wrap64 ((n : Int) - 1) = (n : Int) - 1 := IntWalk.wrap64_in _ (by rw [← hN.out]; omega)
  cases hp0 : inB p 0 ((n : Int) - 1) with
  | false =>
    have hE : Hid (s.stepErr p q = 1) := Lib.hid (by unfold Wv.stepErr; rw [if_pos (by rw [HIS.out, hp0]; rfl)])
    have HP := Lib.hid hp0
    rw [hN.out] at c0
    clear h hnear nbNt hI hb hp0 hn5 hn1
    go_enter Tryd.func10, Tryd.ntmps10
    go_wp2_with fail
    refine (within_any _ _ _ _).mono ?_
    rintro e w' ⟨rfl, rfl⟩
    rw [HP.out]
    go_wp2
    go_ret
    exact BAD.out 1 hE.out (by decide)
  | true =>
  have HP := Lib.hid hp0
  cases hq0 : inB q 0 ((n : Int) - 1) with
  | false =>
    have hE : Hid (s.stepErr p q = 1) := Lib.hid (by unfold Wv.stepErr; rw [if_pos (by rw [HIS.out, hp0, hq0]; rfl)])
    have HQ := Lib.hid hq0
    rw [hN.out] at c0
    clear h hnear nbNt hI hb hp0 hq0 hn5 hn1
    go_enter Tryd.func10, Tryd.ntmps10
    go_wp2_with fail
    refine (within_any _ _ _ _).mono ?_
    rintro e w' ⟨rfl, rfl⟩
    rw [HP.out]
    go_wp2_with fail
    refine (within_any _ _ _ _).mono ?_
    rintro e w' ⟨rfl, rfl⟩
    rw [HQ.out]
    go_wp2
    go_ret
    exact BAD.out 1 hE.out (by decide)
  | true =>
  have HQ := Lib.hid hq0
  have his : s.is p q = true := by rw [HIS.out, hp0, hq0]; rfl
  obtain ⟨p, q, rfl, rfl, hp, hq⟩ := (s.is_iff p q).1 his
  have HIP := Lib.hid his
  obtain ⟨gW, cW, bR, cR, hvw, hvr, c3, dg, hcell, hfr, nbt, ngb, hSb⟩ := h.wayAt hp hn1
  have dx := hcell q hq
  have fx : w.frozen? ⟨bR, q, none⟩ = false := hfr q
  obtain ⟨x, HX⟩ : ∃ x, Hid (s.ways p q = x) := ⟨_, Lib.hid rfl⟩
  rw [HX.out] at dx
  have hp' := hp
  have hq' := hq
  rw [hN.out] at c0 c3 dg hp' hq' hn5 hn1
  have hp1 : (p : Int) < n := by omega
  have hq1 : (q : Int) < n := by omega
  by_cases hx : x = 0
  · have hE : Hid (s.stepErr p q = 5) := Lib.hid (by unfold Wv.stepErr; rw [if_neg (by rw [HIP.out]; simp), Int.toNat_natCast, Int.toNat_natCast, if_pos (by rw [HX.out]; exact hx)])
    have hxb : (x == 0) = true := by rw [hx]; rfl
    clear h hnear nbNt hI hb hp0 hq0 hvw hvr hcell hfr nbt ngb hSb his hx hp hq
    go_enter Tryd.func10, Tryd.ntmps10
    go_wp2_with fail
    refine (within_any _ _ _ _).mono ?_
    rintro e w' ⟨rfl, rfl⟩
    rw [HP.out]
    go_wp2_with fail
    refine (within_any _ _ _ _).mono ?_
    rintro e w' ⟨rfl, rfl⟩
    rw [HQ.out]
    go_wp2
    go_ret
    exact BAD.out 5 hE.out (by decide)
  · have hxb : (x == 0) = false := by rw [beq_eq_false_iff_ne]; exact hx
    obtain ⟨_, _, hw1', hpq⟩ := hI.way1 hp hq (by rw [HX.out]; exact hx)
    have hx1 : x = 1 := by rw [← HX.out]; exact hw1'
    have hE : Hid (s.stepErr p q = 0) := Lib.hid (by unfold Wv.stepErr; rw [if_neg (by rw [HIP.out]; simp), Int.toNat_natCast, Int.toNat_natCast, if_neg (by rw [HX.out]; exact hx)])
    have HG : Hid (s.step p q = s.step0 p q) := Lib.hid (by unfold Wv.step; rw [if_pos hE.out, Int.toNat_natCast, Int.toNat_natCast])
    have HBT : Hid (Bnd (s.take p q) 1) := Lib.hid (hb.take hw1')
    have HPP := Lib.hid hp
    have HQQ := Lib.hid hq
    have HPAR : Hid (0 ≤ s.parent q → s.parent q < s.n) := Lib.hid fun _ => (hI.parR hq).2
    have hdec : wrap64 (x - 1) = x - 1 := IntWalk.wrap64_in _ (by omega)
    have HA1 := Lib.hid (h.setWay hp hvr hq (x - 1))
    have HC1 : Hid (Chg (fun k => ¬ S k) w (w.setCell ⟨bR, q, none⟩ (.int .i64 (x - 1)))) := Lib.hid ((Chg.refl _ w).setCell (.inl hSb) _)
    have HHL : Hid (s.heard q < 2 ^ 40) := Lib.hid (Nat.lt_of_lt_of_le (hI.hdL q hq) (Nat.pow_le_pow_right (by omega) (by rw [hN.out]; omega)))
    have HNL : Hid (s.near q < 2 ^ 40) := Lib.hid (hb.near q hq)
    clear h hnear nbNt hI hb hp0 hq0 hvw hvr hcell hfr nbt ngb hSb his hx hw1' hx1 hp hq
    go_enter Tryd.func10, Tryd.ntmps10
    go_wp2_with fail
    refine (within_any _ _ _ _).mono ?_
    rintro e w' ⟨rfl, rfl⟩
    rw [HP.out]
    go_wp2_with fail
    refine (within_any _ _ _ _).mono ?_
    rintro e w' ⟨rfl, rfl⟩
    rw [HQ.out]
    go_wp2_with fail
    clear c0 c3 dg dx fx hdec hxb
    generalize World.setCell w _ _ = w4 at *
    have h1 := HA1.out
    obtain ⟨bH, cH, vH, hheard, hHf, nHt, hSH, c2⟩ := h1.heardAt (by show 0 < s.n; rw [hN.out]; omega)
    have dH : w4.cell? ⟨bH, q, none⟩ = some (.int .i64 ((s.heard q : Nat) : Int)) := hheard q (by show q < s.n; exact HQQ.out)
    have fH : w4.frozen? ⟨bH, q, none⟩ = false := hHf q
    have c2 : w4.cell? ⟨t, 2, none⟩ = some (.slice (some ⟨bH, 0, none⟩) s.n cH) := c2
    obtain ⟨hx, HHX⟩ : ∃ x, Hid (s.heard q = x) := ⟨_, Lib.hid rfl⟩
    obtain ⟨m, HM⟩ : ∃ x : Nat, Hid (2 ^ p = x) := ⟨_, Lib.hid rfl⟩
    have hm40 : m < 2 ^ 40 := by rw [← HM.out]; exact Nat.pow_lt_pow_right (by omega) (by omega)
    have hsh := shl_nat p (by omega)
    rw [HM.out] at hsh
    have hsh2 := shl_nat2 p (by omega)
    rw [HM.out] at hsh2
    have hh40 : hx < 2 ^ 40 := by rw [← HHX.out]; exact HHL.out
    have hor := bits_or_nat hx m hh40 hm40
    rw [HHX.out] at dH
    rw [hN.out] at c2
    have A2 := h1.setHeard vH (by show q < s.n; exact HQQ.out) (hx ||| m)
    have HI2 : Hid (WIn S (w4.setCell ⟨bH, q, none⟩ (.int .i64 ((hx ||| m : Nat) : Int))).drew t (s.take p q)) := Lib.hid (by
      have e : s.take p q = { s with ways := put2 s.ways p q (x - 1), heard := put1 s.heard q (hx ||| m) } := by unfold Wv.take; rw [HX.out, HHX.out, HM.out]
      rw [e]
      exact ⟨V, tag, Mem.more A2 ((Chg.refl NoF _).drew)⟩)
    have HC2 : Hid (Chg (fun k => ¬ S k) w (w4.setCell ⟨bH, q, none⟩ (.int .i64 ((hx ||| m : Nat) : Int))).drew) := Lib.hid ((HC1.out.setCell (.inl hSH) _).drew)
    obtain ⟨ho, HHO⟩ : ∃ x, Hid (hx ||| m = x) := ⟨_, Lib.hid rfl⟩
    rw [HHO.out] at hor HI2 HC2
    clear h1 A2 hheard hHf vH hSH HA1 HC1
    refine wp_region_plan (Chg NoF w4) 11 [(0,true),(1,true),(2,true),(3,true),(4,true),(5,true),(6,true),(7,true),(8,true),(9,true),(10,true),(11,false)] mixed (by kernel_rfl) (Chg.refl _ _).drew ?_
    simp only [planOps, List.map_cons, List.map_nil, List.getElem?_cons_zero, List.getElem?_cons_succ, Option.getD_some]
    generalize hops : List.toArray _ = ops
    iterate 11 (refine wpPlan_quiet (v := ?_) rfl (fun _ _ _ h => h) (by intro w1 hS; have s0 := hS.cell_some c2 (fun h => h); have s1 := hS.cell_some dH (fun h => h); clear hS; go_simp; with_reducible rfl) ?_; (simp only [Act.put, List.setIfInBounds_toArray, List.set_cons_zero, List.set_cons_succ]))
    refine wpPlan_loud rfl (fun K hK => ?_)
    go_simp
    refine hK _ _ (fun h => absurd rfl h) ?_
    clear hK K
    clear hops
    refine wpPlan_nil ?_
    try simp only [hor]
    clear c2 dH fH hor hh40
    generalize (w4.setCell _ _).drew = w5 at *
    obtain ⟨V2, tag2, h2⟩ := HI2.out
    obtain ⟨bP, cP, vP, hpar, hPf, nPt, hSP, c1⟩ := h2.parentAt (by show 0 < s.n; rw [hN.out]; omega)
    have dP : w5.cell? ⟨bP, q, none⟩ = some (.int .i64 (s.parent q)) := hpar q HQQ.out
    have fP : w5.frozen? ⟨bP, q, none⟩ = false := hPf q
    have c1 : w5.cell? ⟨t, 1, none⟩ = some (.slice (some ⟨bP, 0, none⟩) s.n cP) := c1
    rw [hN.out] at c1
    obtain ⟨y, HY⟩ : ∃ x, Hid (s.parent q = x) := ⟨_, Lib.hid rfl⟩
    rw [HY.out] at dP
    by_cases hy : y < 0
    · have HS0 : Hid (s.step0 p q = (((s.take p q).reach p q).spread q (s.but p q)).back q) := Lib.hid (by unfold Wv.step0; rw [if_pos (by rw [HY.out]; exact hy)])
      have A3 := h2.setParent vP (show q < (s.take p q).n from HQQ.out) (p : Int)
      have HI3 : Hid (WIn S (w5.setCell ⟨bP, q, none⟩ (.int .i64 p)).drew t ((s.take p q).reach p q)) := Lib.hid (WIn.rank (s := { s.take p q with parent := put1 (s.take p q).parent q p }) ⟨V2, tag2, Mem.more A3 ((Chg.refl NoF _).drew)⟩ rfl rfl rfl rfl rfl rfl rfl)
      have HC3 : Hid (Chg (fun k => ¬ S k) w (w5.setCell ⟨bP, q, none⟩ (.int .i64 p)).drew) := Lib.hid ((HC2.out.setCell (.inl hSP) _).drew)
      have HA3 := Lib.hid A3
      clear h2 A3 hpar hPf vP hSP nPt
      go_wp2_with fail
      clear c1 dP fP hy
      have h3 := HA3.out
      obtain ⟨bN2, cN2, -, hnear2, -, c0⟩ := h3.nearAt (by show 0 < s.n; rw [hN.out]; omega)
      have dN : World.cell? _ ⟨bN2, q, none⟩ = some (.int .i64 ((s.near q : Nat) : Int)) := hnear2 q HQQ.out
      have c0 : World.cell? _ ⟨t, 0, none⟩ = some (.slice (some ⟨bN2, 0, none⟩) s.n cN2) := c0
      obtain ⟨nx, HNX⟩ : ∃ x, Hid (s.near q = x) := ⟨_, Lib.hid rfl⟩
      have hn40 : nx < 2 ^ 40 := by rw [← HNX.out]; exact HNL.out
      have hbut := bits_but_nat nx m hn40 hm40
      have HBU : Hid (s.but p q = nx ^^^ (nx &&& m)) := Lib.hid (by unfold Wv.but; rw [HNX.out, HM.out])
      rw [HNX.out] at dN
      rw [hN.out] at c0
      obtain ⟨bu, HBU2⟩ : ∃ x, Hid (nx ^^^ (nx &&& m) = x) := ⟨_, Lib.hid rfl⟩
      rw [HBU2.out] at hbut HBU
      have hbu40 : bu < 2 ^ 40 := by rw [← HBU2.out]; exact Nat.xor_lt_two_pow hn40 (Nat.lt_of_le_of_lt Nat.and_le_left hn40)
      rw [HBU.out] at HS0
      have HBR : Hid (Bnd ((s.take p q).reach p q) 1) := Lib.hid ⟨HBT.out.n1, HBT.out.n5, HBT.out.ways, HBT.out.sent, HBT.out.near⟩
      have HSP := Lib.hid (spread_any S _ t _ HI3.out HBR.out (by omega) q bu HQQ.out hbu40)
      have HBS : Hid (Bnd (((s.take p q).reach p q).spread q bu) 2) := Lib.hid (HBR.out.spreadTo q bu _ (Nat.le_refl _))
      clear h3 hnear2 hn40 hbu40
      generalize World.setCell w5 _ _ = w6 at *
      refine wp_region_plan (Chg NoF w6) 12 [(0,true),(1,true),(2,true),(3,true),(4,true),(5,true),(6,true),(7,true),(8,true),(9,true),(10,true),(11,true),(12,false)] mixed (by kernel_rfl) (Chg.refl _ _).drew ?_
      simp only [planOps, List.map_cons, List.map_nil, List.getElem?_cons_zero, List.getElem?_cons_succ, Option.getD_some]
      generalize hops : List.toArray _ = ops
      iterate 12 (refine wpPlan_quiet (v := ?_) rfl (fun _ _ _ h => h) (by intro w1 hS; have s0 := hS.cell_some c0 (fun h => h); have s1 := hS.cell_some dN (fun h => h); clear hS; go_simp; with_reducible rfl) ?_; (simp only [Act.put, List.setIfInBounds_toArray, List.set_cons_zero, List.set_cons_succ]))
      refine wpPlan_loud rfl (fun K hK => ?_)
      go_simp
      try simp only [hbut]
      refine HSP.out.mono ?_
      rintro e w7 ⟨rfl, hin7, hc7⟩
      refine hK _ _ (fun h => absurd rfl h) ?_
      clear hK K
      clear hops
      refine wpPlan_nil ?_
      have HI7 := Lib.hid hin7
      have HC7 := Lib.hid (HC3.out.trans hc7)
      have HBK := Lib.hid (back_any S w7 t _ HI7.out HBS.out (by omega) q (by rw [show ((((s.take p q).reach p q).spread q bu).n) = s.n from spreadTo_n _ _ _ _]; exact HQQ.out) (fun _ => by
        have e : (((s.take p q).reach p q).spread q bu).parent q = p := by rw [spread_eq]; exact put1_self _ _ _
        have e2 : (((s.take p q).reach p q).spread q bu).n = s.n := spreadTo_n _ _ _ _
        rw [e, e2]; have := HPP.out; omega))
      clear c0 dN hbut hsh hsh2 hm40 hin7 hc7 HSP
      go_wp2_with fail
      refine HBK.out.mono ?_
      rintro e w8 ⟨rfl, hin8, hc8⟩
      have HI8 := Lib.hid hin8
      have HC8 := Lib.hid (HC7.out.trans hc8)
      clear hin8 hc8 HBK
      go_wp2
      go_ret
      exact ⟨by rw [hE.out]; rfl, by rw [HG.out, HS0.out]; exact HI8.out, HC8.out⟩
    · have HS0 : Hid (s.step0 p q = (s.take p q).back q) := Lib.hid (by unfold Wv.step0; rw [if_neg (by rw [HY.out]; exact hy)])
      have HBK := Lib.hid (back_any S w5 t _ HI2.out HBT.out (by omega) q HQQ.out (fun _ => by
        have := HPAR.out (by rw [HY.out]; omega)
        refine ⟨?_, this⟩
        show 0 ≤ s.parent q
        rw [HY.out]; omega))
      clear h2 hpar hPf vP hSP nPt
      go_wp2_with fail
      refine HBK.out.mono ?_
      rintro e w8 ⟨rfl, hin8, hc8⟩
      have HI8 := Lib.hid hin8
      have HC8 := Lib.hid (HC2.out.trans hc8)
      clear hin8 hc8 HBK
      go_wp2
      go_ret
      exact ⟨by rw [hE.out]; rfl, by rw [HG.out, HS0.out]; exact HI8.out, HC8.out⟩

theorem done_any (S : Nat → Prop) (w : World) (t : Nat) (s : Wv) (h : WIn S w t s) : Calls Tryd.prog 13 #[.pointer (some ⟨t, 0, none⟩)] w fun e w' => e = .returned (.bool s.done) ∧ w = w' := by
  obtain ⟨V, tag, h⟩ := h
  have c5 : w.cell? ⟨t, 5, none⟩ = some (.bool s.done) := h.blk.cell 5
  clear h
  go_enter Tryd.func13, Tryd.ntmps13
  go_wp2
  go_ret
  exact ⟨rfl, rfl⟩

theorem sent_any (S : Nat → Prop) (w : World) (t : Nat) (s : Wv) (h : WIn S w t s) : Calls Tryd.prog 14 #[.pointer (some ⟨t, 0, none⟩)] w fun e w' => e = .returned (.int .i64 s.sent) ∧ w = w' := by
  obtain ⟨V, tag, h⟩ := h
  have c4 : w.cell? ⟨t, 4, none⟩ = some (.int .i64 s.sent) := h.blk.cell 4
  clear h
  go_enter Tryd.func14, Tryd.ntmps14
  go_wp2
  go_ret
  exact ⟨rfl, rfl⟩

def GotPost (w : World) (l : List Int) (e : Ending) (w' : World) : Prop := ∃ v, e = .returned v ∧ w'.ownsRow w.heap.size 3 1 v l.length (l.map (.int .i64)) ∧ Chg NoF w w'
def Wv.parents (s : Wv) : List Int := (List.range s.n).map s.parent

set_option maxHeartbeats 1000000 in
theorem parents_any (S : Nat → Prop) (w : World) (t : Nat) (s : Wv) (h : WIn S w t s) (hn : s.n ≤ 5) : Calls Tryd.prog 12 #[.pointer (some ⟨t, 0, none⟩)] w (GotPost w s.parents) := by
  obtain ⟨V, tag, h⟩ := h
  have c1 : w.cell? ⟨t, 1, none⟩ = some (V .parent) := h.blk.cell 1
  have hrow : w.ownsRow 0 3 1 (V .parent) s.parents.length (s.parents.map (.int .i64)) := by
    have h1 : w.ownsRow 0 3 1 (V .parent) s.n ((List.range s.n).map fun p => .int .i64 (s.parent p)) := h.row .parent
    have e1 : s.parents.length = s.n := by unfold Wv.parents; simp
    have e2 : s.parents.map (Value.int .i64) = (List.range s.n).map fun p => .int .i64 (s.parent p) := by unfold Wv.parents; rw [List.map_map]; rfl
    rw [e1, e2]; exact h1
  have hl : s.parents.length ≤ 5 := by unfold Wv.parents; simp; exact hn
  obtain ⟨l, HL⟩ : ∃ l, Hid (s.parents = l) := ⟨_, Lib.hid rfl⟩
  rw [HL.out] at hrow hl ⊢
  have HCL := Lib.hid (clone_any (fun _ => True) _ l w (Rd.ofOwns hrow (fun _ _ => trivial)) (by omega))
  obtain ⟨va, vc, hv⟩ := owns_val hrow
  rw [hv] at c1 HCL
  clear h hrow hv
  go_enter Tryd.func12, Tryd.ntmps12
  go_wp2_with fail
  refine HCL.out.mono ?_
  rintro e w3 ⟨v', rfl, hown1, hcc⟩
  obtain ⟨va, vc, rfl⟩ := owns_val hown1
  have HOWN := Lib.hid hown1
  have HCC := Lib.hid hcc
  clear hown1 hcc c1
  go_wp2
  go_ret
  exact ⟨_, rfl, HOWN.out, HCC.out⟩

set_option maxHeartbeats 2000000 in
theorem way_any (S : Nat → Prop) (w : World) (t : Nat) (s : Wv) (h : WIn S w t s) (hn1 : 1 ≤ s.n) (hn5 : s.n ≤ 5) (p q : Nat) (hp : p < s.n) (hq : q < s.n) :
    Calls Tryd.prog 15 #[.pointer (some ⟨t, 0, none⟩), .int .i64 p, .int .i64 q] w fun e w' => e = .returned (.int .i64 (s.ways p q)) ∧ w = w' := by
  obtain ⟨V, tag, h⟩ := h
  obtain ⟨bN, cN, -, -, -, c0⟩ := h.nearAt hn1
  obtain ⟨gW, cW, bR, cR, -, -, c3, dg, hcell, -⟩ := h.wayAt hp hn1
  have dx := hcell q hq
  obtain ⟨x, HX⟩ : ∃ x, Hid (s.ways p q = x) := ⟨_, Lib.hid rfl⟩
  rw [HX.out] at dx ⊢
  obtain ⟨n, hN⟩ : ∃ n, Hid (s.n = n) := ⟨_, Lib.hid rfl⟩
  rw [hN.out] at c0 c3 dg hp hq hn5 hn1
  have hp1 : (p : Int) < n := by omega
  have hq1 : (q : Int) < n := by omega
  have hw1 : wrap64 ((n : Int) - 1) = (n : Int) - 1 := IntWalk.wrap64_in _ (by omega)
  have HP : Hid (inB p 0 ((n : Int) - 1) = true) := Lib.hid (by simp [inB]; omega)
  have HQ : Hid (inB q 0 ((n : Int) - 1) = true) := Lib.hid (by simp [inB]; omega)
  clear h hcell
  go_enter Tryd.func15, Tryd.ntmps15
  go_wp2_with fail
  refine (within_any _ _ _ _).mono ?_
  rintro e w' ⟨rfl, rfl⟩
  rw [HP.out]
  go_wp2_with fail
  refine (within_any _ _ _ _).mono ?_
  rintro e w' ⟨rfl, rfl⟩
  rw [HQ.out]
  go_wp2
  go_ret
  exact ⟨rfl, rfl⟩

end Go.Proofs.YtckgkgaoioigdaaDoor
