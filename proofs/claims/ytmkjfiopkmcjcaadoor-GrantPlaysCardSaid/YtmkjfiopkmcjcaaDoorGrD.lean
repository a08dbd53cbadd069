/-
  The lock for which one asks all others: asking and leaving.
  Conditions: a net as New made it, with at most 4 nodes, and fewer than 1000 messages on each way.
-/
import Derived.Test.YtmkjfiopkmcjcaaDoorGrC
namespace Go.Proofs.YtmkjfiopkmcjcaaDoor
open Go Go.RowKit

structure Sane (s : GNet) : Prop where
  n0 : 0 < s.n
  n4 : s.n ≤ 4
  len : ∀ p q, p < s.n → q < s.n → (s.ways p q).length < 1000
  ck : ∀ p, p < s.n → 0 ≤ s.ck p
  gr : ∀ p, p < s.n → s.gr p < 2 ^ s.n
  wt : ∀ p, p < s.n → s.wt p < 2 ^ s.n

theorem GInv.sane {s : GNet} (h : GInv s) : Sane s := by
  refine ⟨h.n1, h.n4, fun p q hp hq => ?_, fun p hp => by have := h.pos p hp; omega, h.grB, h.wtB⟩
  have h1 := tot_le h hp hq
  have h2 := tot_le h hq hp
  have h3 := req_zer (s.ways p q)
  unfold tot at h1 h2
  have := req_nonneg (s.ways p q)
  have := req_nonneg (s.ways q p)
  have := zer_nonneg (s.ways p q)
  have := zer_nonneg (s.ways q p)
  have := bI_nonneg (s.wt q) p
  have := bI_nonneg (s.wt p) q
  omega

def ErrPost (S : Nat → Prop) (w : World) (t g : Nat) (n : Int) (s' : GNet) (e : Ending) (w' : World) : Prop :=
  e = .returned (errV n) ∧ GIn S w' t g s' ∧ Chg (fun k => ¬ S k) w w'

theorem bcast_zero (s : GNet) (p : Nat) (m : Int) (C : Nat → Bool) : s.bcast p m C 0 = s := by
  unfold GNet.bcast
  have : (fun a b => if a = p ∧ b < 0 ∧ C b = true then s.ways a b ++ [m] else s.ways a b) = s.ways := by
    funext a b; rw [if_neg (by omega)]
  rw [this]

theorem bcast_skip (s : GNet) (p : Nat) (m : Int) {C : Nat → Bool} {j : Nat} (h : C j = false) : s.bcast p m C (j + 1) = s.bcast p m C j := by
  unfold GNet.bcast
  have : (fun a b => if a = p ∧ b < j + 1 ∧ C b = true then s.ways a b ++ [m] else s.ways a b) = fun a b => if a = p ∧ b < j ∧ C b = true then s.ways a b ++ [m] else s.ways a b := by
    funext a b
    by_cases e : b = j
    · subst e; rw [if_neg (by rw [h]; simp), if_neg (by omega)]
    · have : (a = p ∧ b < j + 1 ∧ C b = true) ↔ (a = p ∧ b < j ∧ C b = true) := by
        constructor
        · rintro ⟨h1, h2, h3⟩; exact ⟨h1, by omega, h3⟩
        · rintro ⟨h1, h2, h3⟩; exact ⟨h1, by omega, h3⟩
      simp only [this]
  rw [this]

theorem bcast_push (s : GNet) (p : Nat) (m : Int) {C : Nat → Bool} {j : Nat} (h : C j = true) : (s.bcast p m C j).push p j m = s.bcast p m C (j + 1) := by
  unfold GNet.push GNet.bcast
  have : (put2 (fun a b => if a = p ∧ b < j ∧ C b = true then s.ways a b ++ [m] else s.ways a b) p j ((if p = p ∧ j < j ∧ C j = true then s.ways p j ++ [m] else s.ways p j) ++ [m])) = fun a b => if a = p ∧ b < j + 1 ∧ C b = true then s.ways a b ++ [m] else s.ways a b := by
    funext a b
    rw [if_neg (by omega)]
    unfold put2
    by_cases e : a = p ∧ b = j
    · obtain ⟨rfl, rfl⟩ := e
      rw [if_pos ⟨rfl, rfl⟩, if_pos ⟨rfl, by omega, h⟩]
    · rw [if_neg e]
      have : (a = p ∧ b < j + 1 ∧ C b = true) ↔ (a = p ∧ b < j ∧ C b = true) := by
        constructor
        · rintro ⟨h1, h2, h3⟩; exact ⟨h1, by omega, h3⟩
        · rintro ⟨h1, h2, h3⟩; exact ⟨h1, by omega, h3⟩
      simp only [this]
  show ({ s with ways := put2 _ p j _ } : GNet) = { s with ways := _ }
  rw [← this]

theorem bcast_len {s : GNet} (p : Nat) (m : Int) (C : Nat → Bool) (j : Nat) : (s.bcast p m C j).ways p j = s.ways p j := by
  rw [bcast_way, if_neg (by omega)]

set_option maxHeartbeats 4000000 in
set_option maxRecDepth 100000 in
theorem ask_any (S : Nat → Prop) (w : World) (t g : Nat) (s : GNet) (h : GIn S w t g s) (hs : Sane s) (p : Int) :
    Calls Tryd.prog 8 #[.pointer (some ⟨t, 0, none⟩), .int .i64 p] w (ErrPost S w t g (s.askErr p) (s.ask p)) := by
  have HIN := Lib.hid h
  have HSA := Lib.hid hs
  have HP := Lib.hid (is_any S w t g s h hs.n0 p)
  have bad : ∀ n : Int, s.askErr p = n → n ≠ 0 → ErrPost S w t g (s.askErr p) (s.ask p) (.returned (errV n)) w := fun n hn h0 =>
    ⟨by rw [hn], by unfold GNet.ask; rw [if_neg (by rw [hn]; exact h0)]; exact HIN.out, Chg.refl _ _⟩
  have BAD := Lib.hid bad
  clear bad
  cases hip : s.is p with
  | false =>
    have hE : Hid (s.askErr p = 1) := Lib.hid (by unfold GNet.askErr; rw [if_pos hip])
    rw [hip] at HP
    clear h hs hip
    go_enter Tryd.func8, Tryd.ntmps8
    go_wp2_with fail
    refine HP.out.mono ?_
    rintro e w' ⟨rfl, rfl⟩
    go_wp2
    go_ret
    exact BAD.out 1 hE.out (by decide)
  | true =>
  have HIP := Lib.hid hip
  rw [hip] at HP
  obtain ⟨a, rfl, ha⟩ := (s.is_iff p).1 hip
  obtain ⟨V, tag, ⟨cN, vN⟩, h⟩ := h
  obtain ⟨d0, d1, d2, d3, d4⟩ := h.fields vN ha
  obtain ⟨_, hfr, htN, hSg, c0⟩ := h.nodeAt vN
  have g0 : w.frozen? ⟨g, a * 5, none⟩ = false := hfr _
  have g1 : w.frozen? ⟨g, a * 5 + 1, none⟩ = false := hfr _
  have g2 : w.frozen? ⟨g, a * 5 + 2, none⟩ = false := hfr _
  have g3 : w.frozen? ⟨g, a * 5 + 3, none⟩ = false := hfr _
  have HH := Lib.hid h
  have VN := Lib.hid vN
  have HSG := Lib.hid hSg
  have htg : ¬ t = g := fun e => htN e.symm
  obtain ⟨st, hST⟩ : ∃ x, Hid (s.st a = x) := ⟨_, Lib.hid rfl⟩
  obtain ⟨ck, hCK⟩ : ∃ x, Hid (s.ck a = x) := ⟨_, Lib.hid rfl⟩
  obtain ⟨n, hN⟩ : ∃ n, Hid (s.n = n) := ⟨_, Lib.hid rfl⟩
  have hck0 := hs.ck a ha
  have hn4 := hs.n4
  rw [hST.out] at d0
  rw [hCK.out] at d1 hck0
  rw [hN.out] at c0 ha hn4
  have ha1 : (a : Int) < n := by omega
  clear hfr h vN hSg hip hs
  by_cases h0 : st = 0
  · have hb0 : (st != 0) = false := by rw [h0]; rfl
    by_cases h1 : 1000 ≤ ck
    · have hE : Hid (s.askErr a = 4) := Lib.hid (by unfold GNet.askErr; rw [if_neg (by rw [HIP.out]; simp), Int.toNat_natCast, if_neg (by rw [hST.out]; simpa using h0), if_pos (by rw [hCK.out]; exact h1)])
      clear h0
      go_enter Tryd.func8, Tryd.ntmps8
      go_wp2_with fail
      refine HP.out.mono ?_
      rintro e w' ⟨rfl, rfl⟩
      go_wp2
      go_ret
      exact BAD.out 4 hE.out (by decide)
    · have hE : Hid (s.askErr a = 0) := Lib.hid (by unfold GNet.askErr; rw [if_neg (by rw [HIP.out]; simp), Int.toNat_natCast, if_neg (by rw [hST.out]; simpa using h0), if_neg (by rw [hCK.out]; exact h1)])
      have hG : Hid (s.ask a = ((s.ask1 a).bcast a (ck + 1) (fun b => decide (b ≠ a)) s.n).enter a) := Lib.hid (by unfold GNet.ask; rw [if_pos hE.out, Int.toNat_natCast]; unfold GNet.ask0; rw [hCK.out])
      have hck1 : ck < 1000 := by omega
      clear h0 h1
      have A1 := HH.out.setCk VN.out (by rw [hN.out]; exact ha) (ck + 1)
      have A2 := GAt.setSt (s := { s with ck := put1 s.ck a (ck + 1) }) A1 VN.out (by show a < s.n; rw [hN.out]; exact ha) 1
      have A3 := GAt.setTm (s := { s with ck := put1 s.ck a (ck + 1), st := put1 s.st a 1 }) A2 VN.out (by show a < s.n; rw [hN.out]; exact ha) (ck + 1)
      have A4 := GAt.setGr (s := { s with ck := put1 s.ck a (ck + 1), st := put1 s.st a 1, tm := put1 s.tm a (ck + 1) }) A3 VN.out (by show a < s.n; rw [hN.out]; exact ha) 0
      have e1 : s.ask1 a = { s with ck := put1 s.ck a (ck + 1), st := put1 s.st a 1, tm := put1 s.tm a (ck + 1), gr := put1 s.gr a 0 } := by unfold GNet.ask1; rw [hCK.out]
      have hin4 : GIn S ((((w.setCell ⟨g, a * 5 + 1, none⟩ (.int .i64 (ck + 1))).setCell ⟨g, a * 5, none⟩ (.int .i64 1)).setCell ⟨g, a * 5 + 2, none⟩ (.int .i64 (ck + 1))).setCell ⟨g, a * 5 + 3, none⟩ (.int .i64 0)) t g ((s.ask1 a).bcast a (ck + 1) (fun b => decide (b ≠ a)) 0) := by
        rw [bcast_zero, e1]; exact ⟨V, tag, ⟨cN, VN.out⟩, A4⟩
      have HIN4 := Lib.hid hin4
      have HC4 : Hid (Chg (fun k => ¬ S k) w ((((w.setCell ⟨g, a * 5 + 1, none⟩ (.int .i64 (ck + 1))).setCell ⟨g, a * 5, none⟩ (.int .i64 1)).setCell ⟨g, a * 5 + 2, none⟩ (.int .i64 (ck + 1))).setCell ⟨g, a * 5 + 3, none⟩ (.int .i64 0))) :=
        Lib.hid (((((Chg.refl _ w).setCell (.inl HSG.out) _).setCell (.inl HSG.out) _).setCell (.inl HSG.out) _).setCell (.inl HSG.out) _)
      have HTM : Hid ((s.ask1 a).tm a = ck + 1) := Lib.hid (by rw [e1]; exact put1_self _ _ _)
      have HL : Hid (∀ j, j < n → ((s.ask1 a).ways a j).length < 1000000) := Lib.hid (fun j hj => by
        have := HSA.out.len a j (by rw [hN.out]; exact ha) (by rw [hN.out]; exact hj)
        show (s.ways a j).length < _
        omega)
      have HNN : Hid ((s.ask1 a).n = n) := Lib.hid hN.out
      clear A1 A2 A3 A4 e1 hin4
      go_enter Tryd.func8, Tryd.ntmps8
      go_wp2_with fail
      refine HP.out.mono ?_
      rintro e w' ⟨rfl, rfl⟩
      go_wp2_with fail
      clear hb0
      generalize World.setCell _ _ _ = w4 at *
      go_loopw [55] (fun i wr => ∃ j : Nat, j ≤ n ∧ i = .int .i64 j ∧ Hid (GIn S wr t g ((s.ask1 a).bcast a (ck + 1) (fun b => decide (b ≠ a)) j)) ∧ Hid (Chg (fun k => ¬ S k) w wr)) (fun i _ => n - (intOf i).toNat)
      case atStart => exact ⟨0, Nat.zero_le _, rfl, HIN4, HC4⟩
      case round =>
        clear d0 d1 d2 d3 d4 g0 g1 g2 g3 c0
        obtain ⟨j, hjn, rfl, HI, HC⟩ := hrel
        by_cases hj : j < n
        · have hj1 : (j : Int) < n := by omega
          by_cases hja : j = a
          · have hb : ((j : Int) == (a : Int)) = true := by rw [hja]; simp
            have HI2 := HI.out
            rw [← bcast_skip (s.ask1 a) a (ck + 1) (C := fun b => decide (b ≠ a)) (by simp [hja])] at HI2
            have HI2 := Lib.hid HI2
            clear hja
            go_wp2
            go_roundw
            case rel => exact ⟨j + 1, by omega, by go_num, HI2, HC⟩
            case measure => simp [intOf]; omega
          · have hb : ((j : Int) == (a : Int)) = false := by rw [beq_eq_false_iff_ne]; omega
            obtain ⟨V1, tag1, ⟨cN1, vN1⟩, h1⟩ := HI.out
            have d2 := (h1.fields vN1 (p := a) (by show a < s.n; rw [hN.out]; exact ha)).2.2.1
            rw [show ((s.ask1 a).bcast a (ck + 1) (fun b => decide (b ≠ a)) j).tm a = ck + 1 from HTM.out] at d2
            have HSD := Lib.hid (send_any S _ t g _ HI.out a j (ck + 1) (by show a < s.n; rw [hN.out]; exact ha) (by show j < s.n; rw [hN.out]; exact hj) (by rw [bcast_len]; exact HL.out j hj))
            rw [bcast_push (s.ask1 a) a (ck + 1) (C := fun b => decide (b ≠ a)) (by simp [hja])] at HSD
            clear h1 vN1 hja
            go_wp2_with fail
            refine HSD.out.mono ?_
            rintro e w5 ⟨rfl, hin5, hc5⟩
            have HI2 := Lib.hid hin5
            have HC2 := Lib.hid (HC.out.trans hc5)
            clear hin5 hc5 HSD d2
            go_wp2
            go_roundw
            case rel => exact ⟨j + 1, by omega, by go_num, HI2, HC2⟩
            case measure => simp [intOf]; omega
        · obtain rfl : j = n := by omega
          have HEN := Lib.hid (enter_any S _ t g _ HI.out (by show s.n ≤ 4; rw [hN.out]; exact hn4) a (by show a < s.n; rw [hN.out]; exact ha))
          go_wp2_with fail
          refine HEN.out.mono ?_
          rintro e w5 ⟨rfl, hin5, hc5⟩
          go_wp2
          go_ret
          exact ⟨by rw [hE.out]; rfl, by rw [hG.out, hN.out]; exact hin5, HC.out.trans hc5⟩
  · have hb0 : (st != 0) = true := by rw [bne_iff_ne]; exact h0
    have hE : Hid (s.askErr a = 7) := Lib.hid (by unfold GNet.askErr; rw [if_neg (by rw [HIP.out]; simp), Int.toNat_natCast, if_pos (by rw [hST.out]; exact h0)])
    clear h0
    go_enter Tryd.func8, Tryd.ntmps8
    go_wp2_with fail
    refine HP.out.mono ?_
    rintro e w' ⟨rfl, rfl⟩
    go_wp2
    go_ret
    exact BAD.out 7 hE.out (by decide)

theorem setWt0 (s : GNet) (p : Nat) : s.leave0 p = { (s.leave1 p).bcast p 0 (bitB (s.wt p)) s.n with wt := put1 ((s.leave1 p).bcast p 0 (bitB (s.wt p)) s.n).wt p 0 } := rfl

set_option maxHeartbeats 4000000 in
set_option maxRecDepth 100000 in
theorem leave_any (S : Nat → Prop) (w : World) (t g : Nat) (s : GNet) (h : GIn S w t g s) (hs : Sane s) (p : Int) :
    Calls Tryd.prog 10 #[.pointer (some ⟨t, 0, none⟩), .int .i64 p] w (ErrPost S w t g (s.leaveErr p) (s.leave p)) := by
  have HIN := Lib.hid h
  have HSA := Lib.hid hs
  have HP := Lib.hid (is_any S w t g s h hs.n0 p)
  have bad : ∀ n : Int, s.leaveErr p = n → n ≠ 0 → ErrPost S w t g (s.leaveErr p) (s.leave p) (.returned (errV n)) w := fun n hn h0 =>
    ⟨by rw [hn], by unfold GNet.leave; rw [if_neg (by rw [hn]; exact h0)]; exact HIN.out, Chg.refl _ _⟩
  have BAD := Lib.hid bad
  clear bad
  cases hip : s.is p with
  | false =>
    have hE : Hid (s.leaveErr p = 1) := Lib.hid (by unfold GNet.leaveErr; rw [if_pos hip])
    rw [hip] at HP
    clear h hs hip
    go_enter Tryd.func10, Tryd.ntmps10
    go_wp2_with fail
    refine HP.out.mono ?_
    rintro e w' ⟨rfl, rfl⟩
    go_wp2
    go_ret
    exact BAD.out 1 hE.out (by decide)
  | true =>
  have HIP := Lib.hid hip
  rw [hip] at HP
  obtain ⟨a, rfl, ha⟩ := (s.is_iff p).1 hip
  obtain ⟨V, tag, ⟨cN, vN⟩, h⟩ := h
  obtain ⟨d0, d1, d2, d3, d4⟩ := h.fields vN ha
  obtain ⟨_, hfr, htN, hSg, c0⟩ := h.nodeAt vN
  have g0 : w.frozen? ⟨g, a * 5, none⟩ = false := hfr _
  have HH := Lib.hid h
  have VN := Lib.hid vN
  have HSG := Lib.hid hSg
  have htg : ¬ t = g := fun e => htN e.symm
  obtain ⟨st, hST⟩ : ∃ x, Hid (s.st a = x) := ⟨_, Lib.hid rfl⟩
  obtain ⟨wt, hWT⟩ : ∃ x, Hid (s.wt a = x) := ⟨_, Lib.hid rfl⟩
  obtain ⟨n, hN⟩ : ∃ n, Hid (s.n = n) := ⟨_, Lib.hid rfl⟩
  have hn4 := hs.n4
  have HW16 : Hid (wt < 16) := Lib.hid (by rw [← hWT.out]; exact sub16 hs.n4 (hs.wt a ha))
  rw [hST.out] at d0
  rw [hN.out] at c0 ha hn4
  have ha1 : (a : Int) < n := by omega
  clear hfr h vN hSg hip hs d1 d2 d3 d4
  by_cases h0 : st = 2
  · have hb0 : (st != 2) = false := by rw [h0]; rfl
    have hE : Hid (s.leaveErr a = 0) := Lib.hid (by unfold GNet.leaveErr; rw [if_neg (by rw [HIP.out]; simp), Int.toNat_natCast, if_neg (by rw [hST.out]; simpa using h0)])
    have hG : Hid (s.leave a = { (s.leave1 a).bcast a 0 (bitB wt) s.n with wt := put1 ((s.leave1 a).bcast a 0 (bitB wt) s.n).wt a 0 }) := Lib.hid (by unfold GNet.leave; rw [if_pos hE.out, Int.toNat_natCast, setWt0, hWT.out])
    clear h0
    have A1 := HH.out.setSt VN.out (by rw [hN.out]; exact ha) 0
    have hin4 : GIn S (w.setCell ⟨g, a * 5, none⟩ (.int .i64 0)) t g ((s.leave1 a).bcast a 0 (bitB wt) 0) := by
      rw [bcast_zero]; exact ⟨V, tag, ⟨cN, VN.out⟩, A1⟩
    have HIN4 := Lib.hid hin4
    have HC4 : Hid (Chg (fun k => ¬ S k) w (w.setCell ⟨g, a * 5, none⟩ (.int .i64 0))) := Lib.hid ((Chg.refl _ w).setCell (.inl HSG.out) _)
    have HWT2 : Hid ((s.leave1 a).wt a = wt) := Lib.hid hWT.out
    have HL : Hid (∀ j, j < n → ((s.leave1 a).ways a j).length < 1000000) := Lib.hid (fun j hj => by
      have := HSA.out.len a j (by rw [hN.out]; exact ha) (by rw [hN.out]; exact hj)
      show (s.ways a j).length < _
      omega)
    clear A1 hin4
    go_enter Tryd.func10, Tryd.ntmps10
    go_wp2_with fail
    refine HP.out.mono ?_
    rintro e w' ⟨rfl, rfl⟩
    go_wp2_with fail
    clear hb0
    generalize World.setCell _ _ _ = w4 at *
    go_loopw [32] (fun i wr => ∃ j : Nat, j ≤ n ∧ i = .int .i64 j ∧ Hid (GIn S wr t g ((s.leave1 a).bcast a 0 (bitB wt) j)) ∧ Hid (Chg (fun k => ¬ S k) w wr)) (fun i _ => n - (intOf i).toNat)
    case atStart => exact ⟨0, Nat.zero_le _, rfl, HIN4, HC4⟩
    case round =>
      clear d0 g0 c0
      obtain ⟨j, hjn, rfl, HI, HC⟩ := hrel
      obtain ⟨V1, tag1, ⟨cN1, vN1⟩, h1⟩ := HI.out
      have haB : a < ((s.leave1 a).bcast a 0 (bitB wt) j).n := by show a < s.n; rw [hN.out]; exact ha
      have d4 := (h1.fields vN1 haB).2.2.2.2
      rw [show ((s.leave1 a).bcast a 0 (bitB wt) j).wt a = wt from HWT2.out] at d4
      by_cases hj : j < n
      · have hj1 : (j : Int) < n := by omega
        have HHA := Lib.hid (fun wr => has_any wt j HW16.out (by omega) wr)
        clear h1 vN1 haB
        cases hb : bitB wt j with
        | false =>
          rw [hb] at HHA
          have HI2 := HI.out
          rw [← bcast_skip (s.leave1 a) a 0 (C := bitB wt) hb] at HI2
          have HI2 := Lib.hid HI2
          clear hb
          go_wp2_with fail
          refine (HHA.out _).mono ?_
          rintro e w' ⟨rfl, rfl⟩
          go_wp2
          go_roundw
          case rel => exact ⟨j + 1, by omega, by go_num, HI2, HC⟩
          case measure => simp [intOf]; omega
        | true =>
          rw [hb] at HHA
          have HSD := Lib.hid (send_any S _ t g _ HI.out a j 0 (by show a < s.n; rw [hN.out]; exact ha) (by show j < s.n; rw [hN.out]; exact hj) (by rw [bcast_len]; exact HL.out j hj))
          rw [bcast_push (s.leave1 a) a 0 (C := bitB wt) hb] at HSD
          clear hb
          go_wp2_with fail
          refine (HHA.out _).mono ?_
          rintro e w' ⟨rfl, rfl⟩
          go_wp2_with fail
          refine HSD.out.mono ?_
          rintro e w5 ⟨rfl, hin5, hc5⟩
          have HI2 := Lib.hid hin5
          have HC2 := Lib.hid (HC.out.trans hc5)
          clear hin5 hc5 HSD d4
          go_wp2
          go_roundw
          case rel => exact ⟨j + 1, by omega, by go_num, HI2, HC2⟩
          case measure => simp [intOf]; omega
      · obtain rfl : j = n := by omega
        have g4 := (h1.nodeAt vN1).2.1 (a * 5 + 4)
        have hSg1 := (h1.nodeAt vN1).2.2.2.1
        have A5 := Lib.hid (GAt.setWt h1 vN1 haB 0)
        have VN1 := Lib.hid vN1
        have HC5 := Lib.hid (HC.out.setCell (p := ⟨g, a * 5 + 4, none⟩) (.inl hSg1) (.int .i64 0))
        clear h1 vN1 haB hSg1
        go_wp2
        go_ret
        exact ⟨by rw [hE.out]; rfl, by rw [hG.out, hN.out]; exact ⟨V1, tag1, ⟨cN1, VN1.out⟩, A5.out⟩, HC5.out⟩
  · have hb0 : (st != 2) = true := by rw [bne_iff_ne]; exact h0
    have hE : Hid (s.leaveErr a = 7) := Lib.hid (by unfold GNet.leaveErr; rw [if_neg (by rw [HIP.out]; simp), Int.toNat_natCast, if_pos (by rw [hST.out]; exact h0)])
    clear h0
    go_enter Tryd.func10, Tryd.ntmps10
    go_wp2_with fail
    refine HP.out.mono ?_
    rintro e w' ⟨rfl, rfl⟩
    go_wp2
    go_ret
    exact BAD.out 7 hE.out (by decide)

end Go.Proofs.YtmkjfiopkmcjcaaDoor
