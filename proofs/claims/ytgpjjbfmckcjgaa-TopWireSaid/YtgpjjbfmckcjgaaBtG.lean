/-
  The line over two wires: the closed fact, and the walks of BitOrder and BitGoes.
  Conditions: the values and the kinds are read as lists of integers.
-/
import Derived.Test.YtgpjjbfmckcjgaaBtF
namespace Go.Proofs.Ytgpjjbfmckcjgaa
open Go Go.RowKit

/-- What stays true of a line, since the world w0. -/
def BRel (w0 w : World) (t : Nat) (l : List Int) (s : BNet) : Prop := BInv s ∧ s.vals = l ∧ BIn (fun b => b < w0.heap.size) w t s ∧ Chg (NewB w0) w0 w

theorem BRel.start {w w1 w2 : World} {t : Nat} {l : List Int} (hl : bnErr l = 0) (hc1 : Chg NoF w w1) (hc2 : Chg NoF w1 w2) (hin : BIn (fun b => b < w1.heap.size) w2 t (BNet.init l)) : BRel w w2 t l (BNet.init l) :=
  ⟨BInv.start (bnErr_good hl).1 (bnErr_good hl).2, rfl, hin.mono fun _ hb => Nat.lt_of_lt_of_le hb hc1.size, (hc1.trans hc2).ofNo⟩
theorem BRel.step {w0 w w1 : World} {t : Nat} {l : List Int} {s : BNet} (h : BRel w0 w t l s) (k : Int) (hin : BIn (fun b => b < w0.heap.size) w1 t (s.act k)) (hc : Chg (fun k => ¬ k < w0.heap.size) w w1) : BRel w0 w1 t l (s.act k) :=
  ⟨h.1.act k, (s.act_vals k).trans h.2.1, hin, h.2.2.2.trans hc⟩
theorem BRel.keep {w0 w w1 : World} {t : Nat} {l : List Int} {s : BNet} (h : BRel w0 w t l s) (hc : Chg NoF w w1) : BRel w0 w1 t l s :=
  ⟨h.1, h.2.1, h.2.2.1.keep hc, h.2.2.2.trans hc.ofNo⟩
theorem BRel.doIt {w0 w : World} {t : Nat} {l : List Int} {s : BNet} (h : BRel w0 w t l s) (k : Int) :
    Calls Try.prog 17 #[.pointer (some ⟨t, 0, none⟩), .int .i64 k] w fun e w' => e = .returned (errV (s.err k)) ∧ BRel w0 w' t l (s.act k) := by
  refine (do_any _ w t s h.2.2.1 h.1 k).mono ?_
  rintro e w' ⟨rfl, hin, hc⟩
  exact ⟨rfl, h.step k hin hc⟩

set_option maxHeartbeats 4000000 in
set_option maxRecDepth 100000 in
theorem bitFact_any (w : World) : Calls Try.prog 21 #[] w fun e w' => e = .returned (.bool true) ∧ Chg NoF w w' := by
  go_enter Try.func21, Try.ntmps21
  go_wp2_with fail
  refine (bnew_any (fun _ => True) _ (.slice (some ⟨w.heap.size, 0, none⟩) 2 2) [7, 8] (Rd.built w 3 [7, 8] 2 _ trivial) (by decide)).mono ?_
  rintro e w1 ⟨hc1, h⟩
  rcases h with ⟨h, _⟩ | ⟨h0, t, rfl, hin⟩
  · exact absurd (by decide) h
  have H0 := Lib.hid (BRel.start (w := w) h0 ((Chg.refl NoF w).alloc _) hc1 hin)
  clear hc1 hin h0
  go_wp2_with fail
  refine (H0.out.doIt 0).mono ?_
  rintro e w2 ⟨rfl, h⟩
  have H1 := Lib.hid h
  rw [show (BNet.init [7, 8]).err 0 = 0 by decide, show errV 0 = .nilIface from rfl]
  clear h H0
  go_wp2_with fail
  refine (H1.out.doIt 3).mono ?_
  rintro e w3 ⟨rfl, h⟩
  have H2 := Lib.hid h
  rw [show ((BNet.init [7, 8]).act 0).err 3 = 0 by decide, show errV 0 = .nilIface from rfl]
  clear h H1
  go_wp2_with fail
  refine (H2.out.doIt 1).mono ?_
  rintro e w4 ⟨rfl, h⟩
  have H3 := Lib.hid h
  rw [show (((BNet.init [7, 8]).act 0).act 3).err 1 = 0 by decide, show errV 0 = .nilIface from rfl]
  clear h H2
  go_wp2_with fail
  refine (H3.out.doIt 1).mono ?_
  rintro e w5 ⟨rfl, h⟩
  have H4 := Lib.hid h
  rw [show ((((BNet.init [7, 8]).act 0).act 3).act 1).err 1 = 0 by decide, show errV 0 = .nilIface from rfl]
  clear h H3
  go_wp2_with fail
  refine (H4.out.doIt 4).mono ?_
  rintro e w6 ⟨rfl, h⟩
  have H5 := Lib.hid h
  rw [show (((((BNet.init [7, 8]).act 0).act 3).act 1).act 1).err 4 = 0 by decide, show errV 0 = .nilIface from rfl]
  clear h H4
  go_wp2_with fail
  refine (H5.out.doIt 4).mono ?_
  rintro e w7 ⟨rfl, h⟩
  have H6 := Lib.hid h
  rw [show ((((((BNet.init [7, 8]).act 0).act 3).act 1).act 1).act 4).err 4 = 0 by decide, show errV 0 = .nilIface from rfl]
  clear h H5
  have eg : (((((((BNet.init [7, 8]).act 0).act 3).act 1).act 1).act 4).act 4).got = [7] := by decide
  have es : (((((((BNet.init [7, 8]).act 0).act 3).act 1).act 1).act 4).act 4).sent = 1 := by decide
  have HG := Lib.hid (bgot_any _ w7 t _ H6.out.2.2.1 (by rw [eg]; decide))
  have HS := Lib.hid (fun w8 (h8 : BRel w w8 t [7, 8] (((((((BNet.init [7, 8]).act 0).act 3).act 1).act 1).act 4).act 4)) => bsent_any _ w8 t _ h8.2.2.1)
  rw [eg] at HG
  rw [es] at HS
  clear eg es
  go_wp2_with fail
  refine HG.out.mono ?_
  rintro e w8 ⟨vg, rfl, hown, hc8⟩
  have HGV := Lib.hid (Rd.ofOwns (S := fun _ => True) hown (fun _ _ => trivial))
  have H7 := Lib.hid (H6.out.keep hc8)
  obtain ⟨va, vc, rfl⟩ := owns_val hown
  clear hown hc8 H6 HG
  go_wp2_with fail
  refine (ints_any (fun _ => True) _ _ [7] [7] _ (HGV.out.keep ((Chg.refl NoF w8).alloc _) (fun _ _ h => h)) (Rd.built w8 3 [7] 1 _ trivial) (by decide) (by decide)).mono ?_
  rintro e w9 ⟨rfl, j, rfl⟩
  have H8 := Lib.hid (H7.out.keep (((Chg.refl NoF w8).alloc (.cells #[.int .i64 7] 3)).drewN j))
  simp only [decide_true]
  go_wp2_with fail
  refine (HS.out _ H8.out).mono ?_
  rintro e w10 ⟨rfl, rfl⟩
  go_wp2
  go_ret
  have hc := H8.out.2.2.2
  exact ⟨rfl, hc.os, hc.tape, hc.output, hc.size, fun k hk _ => hc.block k hk (fun hn => hn hk)⟩

theorem Rd.upto {S : Nat → Prop} {w : World} {a : Option Addr} {n c : Nat} {l : List Int} (h : Rd S w (.slice a n c) l) {k : Nat} (hk : k ≤ l.length) : Rd S w (.slice a k c) (l.take k) := by
  have hl : (l.take k).length = k := by rw [List.length_take]; omega
  obtain ⟨a', c', e, h⟩ := h
  injection e with e1 e2 e3
  subst e1; subst e3
  refine ⟨a, c, by rw [hl], ?_⟩
  rcases h with rfl | ⟨b, off, rfl, hS, hc, hcell⟩
  · left; simp
  · right
    refine ⟨b, off, rfl, hS, by omega, fun j hj => ?_⟩
    rw [hl] at hj
    rw [hcell j (by omega)]
    simp [List.getD, hj]

theorem Rd.cap {S : Nat → Prop} {w : World} {a : Option Addr} {n c : Nat} {l : List Int} (h : Rd S w (.slice a n c) l) : n = l.length ∧ (l = [] ∨ n ≤ c) := by
  obtain ⟨a', c', e, h⟩ := h
  injection e with e1 e2 e3
  subst e1; subst e3
  refine ⟨e2, ?_⟩
  rcases h with h | ⟨b, off, _, _, hc, _⟩
  · exact .inl h
  · exact .inr (by omega)

set_option maxHeartbeats 8000000 in
set_option maxRecDepth 100000 in
theorem border_walk (va vk : Value) (l kl : List Int) (w : World) (hr : Rd (fun k => k < w.heap.size) w va l) (hlb : l.length ≤ 9223372036854775807) (hk : Rd (fun k => k < w.heap.size) w vk kl) (_ : kl.length ≤ 9223372036854775807) :
    Calls Try.prog 6 #[va, vk] w fun e w' => e = .returned (.bool true) ∧ Chg (NewB w) w w' := by
  have HR := Lib.hid hr
  have HK := Lib.hid hk
  obtain ⟨pa, pc, rfl⟩ := hr.val
  obtain ⟨ka, kc, rfl⟩ := hk.val
  obtain ⟨n, HN⟩ : ∃ n, Hid (l.length = n) := ⟨_, Lib.hid rfl⟩
  obtain ⟨kn, HKN⟩ : ∃ kn, Hid (kl.length = kn) := ⟨_, Lib.hid rfl⟩
  have HLB := Lib.hid hlb
  rw [HN.out] at HR ⊢
  rw [HKN.out] at HK ⊢
  clear hr hk hlb
  go_enter Try.func6, Try.ntmps6
  go_wp2_with fail
  refine (bitFact_any w).mono ?_
  rintro e w1 ⟨rfl, hc1⟩
  have HC1 := Lib.hid hc1
  clear hc1
  go_wp2_with fail
  refine (bnew_any _ w1 _ l (HR.out.keep HC1.out (fun _ _ h => h)) HLB.out).mono ?_
  rintro e w2 ⟨hc2, h⟩
  rcases h with ⟨hbad, rfl⟩ | ⟨h0, t, rfl, hin⟩
  · have HC2 := Lib.hid (HC1.out.trans hc2)
    rw [show errV (bnErr l) = .iface 41 (.int .i64 (bnErr l)) by unfold errV; rw [if_neg hbad]]
    clear hbad hc2
    go_wp2
    go_ret
    exact ⟨rfl, HC2.out.ofNo⟩
  have H0 := Lib.hid (BRel.start h0 HC1.out hc2 hin)
  have HL20 : Hid (n ≤ 20) := Lib.hid (by rw [← HN.out]; exact (bnErr_good h0).1)
  clear hc2 hin h0
  obtain ⟨s0, HS0⟩ : ∃ s0, Hid (BNet.init l = s0) := ⟨_, Lib.hid rfl⟩
  rw [HS0.out] at H0
  go_wp2_with fail
  go_loopw [8, 9] (fun i _ wr => ∃ j : Nat, j ≤ kn ∧ j ≤ 200 ∧ i = .int .i64 j ∧ ∃ s, Hid (BRel w wr t l s)) (fun i _ _ => 200 - (intOf i).toNat)
  case atStart => exact ⟨0, Nat.zero_le _, Nat.zero_le _, rfl, _, H0⟩
  case round =>
    clear H0
    obtain ⟨j, hjk, hj200, rfl, s, HP⟩ := hrel
    by_cases hlt : j < kn ∧ j < 200
    · obtain ⟨hlt1, hlt2⟩ := hlt
      obtain ⟨bK, oK, cK, eK, -, hcK⟩ := HK.out.form (by rw [HKN.out]; omega)
      rw [HKN.out] at eK hcK
      simp only [Value.slice.injEq] at eK
      obtain ⟨rfl, -, rfl⟩ := eK
      have dw := hcK j hlt1
      obtain ⟨x, HX⟩ : ∃ x, Hid (kl.getD j 0 = x) := ⟨_, Lib.hid rfl⟩
      rw [HX.out] at dw
      have d0 := HP.out.2.2.2.cell_some dw (fun hn => hn (World.block_lt_of_cell? w _ dw))
      have hj1 : (j : Int) < kn := by omega
      have hj2 : (j : Int) < 200 := by omega
      clear hcK dw
      go_wp2_with fail
      refine (HP.out.doIt x).mono ?_
      rintro e w3 ⟨rfl, h⟩
      obtain ⟨s2, HS2⟩ : ∃ s2, Hid (s.act x = s2) := ⟨_, Lib.hid rfl⟩
      rw [HS2.out] at h
      have HP2 := Lib.hid h
      have HI2 : Hid (BInv s2) := Lib.hid h.1
      have HV2 : Hid (s2.vals = l) := Lib.hid h.2.1
      obtain ⟨gn, HGN⟩ : ∃ gn, Hid (s2.got.length = gn) := ⟨_, Lib.hid rfl⟩
      obtain ⟨q, HQ⟩ : ∃ q, Hid (s2.sent = q) := ⟨_, Lib.hid rfl⟩
      have hgn : gn ≤ n := by rw [← HGN.out, ← HN.out, ← HV2.out]; exact h.1.gle
      have hgq : gn = q ∨ gn = q + 1 := by
        rw [← HGN.out, ← HQ.out]
        rcases h.1.st with h | h
        · exact .inl h.1
        · exact .inr h.1
      have HTK : Hid (s2.got = l.take gn) := Lib.hid (by rw [← HGN.out, ← HV2.out]; exact h.1.gpre)
      have HL := HL20.out
      clear d0 h
      go_wp2_with fail
      refine (bgot_any _ w3 t s2 HP2.out.2.2.1 (by rw [HGN.out]; omega)).mono ?_
      rintro e w4 ⟨vg, rfl, hown, hc4⟩
      have HGV := Lib.hid (Rd.ofOwns (S := fun _ => True) hown (fun _ _ => trivial))
      rw [HGN.out] at hown
      obtain ⟨ga, gc, rfl⟩ := owns_val hown
      have HP3 := Lib.hid (HP2.out.keep hc4)
      have HTV : Hid (Rd (fun _ => True) w4 (.slice pa gn pc) (l.take gn)) := Lib.hid ((Rd.upto (HR.out.keep HP3.out.2.2.2 (fun b hb hn => hn hb)) (by rw [HN.out]; exact hgn)).mono (fun _ _ _ => trivial))
      have hcap : gn ≤ pc := by
        rcases HR.out.cap with ⟨_, h | h⟩
        · have : n = 0 := by rw [← HN.out, h]; rfl
          omega
        · omega
      have hgn1 : (gn : Int) ≤ n := by omega
      have hgn2 : ¬ (n : Int) < gn := by omega
      have hcap1 : (gn : Int) ≤ pc := by omega
      have hgn0 : (0 : Int) ≤ gn := by omega
      have hq1 : ¬ (gn : Int) < q := by omega
      have hq2 : ¬ (q : Int) < (gn : Int) - 1 := by omega
      have hw1 : wrap64 ((gn : Int) - 1) = gn - 1 := IntWalk.wrap64_in _ (by omega)
      have HGL : Hid (s2.got.length ≤ 9223372036854775807 ∧ (l.take gn).length ≤ 9223372036854775807) := Lib.hid ⟨by rw [HGN.out]; omega, by rw [List.length_take]; omega⟩
      have HGT := hgq
      clear hown hc4 HP2 hgq
      have htn : ((gn : Int)).toNat = gn := Int.toNat_natCast gn
      go_wp2_with fail
      refine (ints_any (fun _ => True) _ _ _ _ w4 HGV.out HTV.out HGL.out.1 HGL.out.2).mono ?_
      rintro e w5 ⟨rfl, kz, rfl⟩
      have hdt : decide (s2.got = l.take gn) = true := by rw [decide_eq_true_eq]; exact HTK.out
      rw [hdt]
      have HP4 := Lib.hid (HP3.out.keep ((Chg.refl NoF w4).drewN kz))
      clear HP3 HTV
      generalize w4.drewN kz = w6 at *
      go_wp2_with fail
      refine (bsent_any _ w6 t s2 HP4.out.2.2.1).mono ?_
      rintro e w7 ⟨rfl, rfl⟩
      rw [HQ.out]
      go_wp2_with fail
      refine (bsent_any _ w6 t s2 HP4.out.2.2.1).mono ?_
      rintro e w7 ⟨rfl, rfl⟩
      rw [HQ.out]
      go_wp2
      go_roundw
      case rel => exact ⟨j + 1, by omega, by omega, by go_num, s2, HP4⟩
      case measure => simp [intOf]; omega
    · have hb : ¬ (j : Int) < kn ∨ ((j : Int) < kn ∧ ¬ (j : Int) < 200) := by omega
      clear hlt
      rcases hb with hb | ⟨hb1, hb2⟩
      all_goals
        go_wp2
        go_ret
        exact ⟨rfl, HP.out.2.2.2⟩

set_option maxHeartbeats 8000000 in
set_option maxRecDepth 100000 in
theorem bgoes_walk (va vk : Value) (l kl : List Int) (w : World) (hr : Rd (fun k => k < w.heap.size) w va l) (hlb : l.length ≤ 9223372036854775807) (hk : Rd (fun k => k < w.heap.size) w vk kl) (_ : kl.length ≤ 9223372036854775807) :
    Calls Try.prog 7 #[va, vk] w fun e w' => e = .returned (.bool true) ∧ Chg (NewB w) w w' := by
  have HR := Lib.hid hr
  have HK := Lib.hid hk
  obtain ⟨pa, pc, rfl⟩ := hr.val
  obtain ⟨ka, kc, rfl⟩ := hk.val
  obtain ⟨n, HN⟩ : ∃ n, Hid (l.length = n) := ⟨_, Lib.hid rfl⟩
  obtain ⟨kn, HKN⟩ : ∃ kn, Hid (kl.length = kn) := ⟨_, Lib.hid rfl⟩
  have HLB := Lib.hid hlb
  rw [HN.out] at HR ⊢
  rw [HKN.out] at HK ⊢
  clear hr hk hlb
  go_enter Try.func7, Try.ntmps7
  go_wp2_with fail
  refine (bitFact_any w).mono ?_
  rintro e w1 ⟨rfl, hc1⟩
  have HC1 := Lib.hid hc1
  clear hc1
  go_wp2_with fail
  refine (bnew_any _ w1 _ l (HR.out.keep HC1.out (fun _ _ h => h)) HLB.out).mono ?_
  rintro e w2 ⟨hc2, h⟩
  rcases h with ⟨hbad, rfl⟩ | ⟨h0, t, rfl, hin⟩
  · have HC2 := Lib.hid (HC1.out.trans hc2)
    rw [show errV (bnErr l) = .iface 41 (.int .i64 (bnErr l)) by unfold errV; rw [if_neg hbad]]
    clear hbad hc2
    go_wp2
    go_ret
    exact ⟨rfl, HC2.out.ofNo⟩
  have H0 := Lib.hid (BRel.start h0 HC1.out hc2 hin)
  clear hc2 hin h0
  obtain ⟨s0, HS0⟩ : ∃ s0, Hid (BNet.init l = s0) := ⟨_, Lib.hid rfl⟩
  rw [HS0.out] at H0
  go_wp2_with fail
  go_loopw [8] (fun i wr => ∃ j : Nat, j ≤ kn ∧ j ≤ 200 ∧ i = .int .i64 j ∧ ∃ s, Hid (BRel w wr t l s)) (fun i _ => 200 - (intOf i).toNat)
  case atStart => exact ⟨0, Nat.zero_le _, Nat.zero_le _, rfl, _, H0⟩
  case round =>
    clear H0
    obtain ⟨j, hjk, hj200, rfl, s, HP⟩ := hrel
    by_cases hlt : j < kn ∧ j < 200
    · obtain ⟨hlt1, hlt2⟩ := hlt
      obtain ⟨bK, oK, cK, eK, -, hcK⟩ := HK.out.form (by rw [HKN.out]; omega)
      rw [HKN.out] at eK hcK
      simp only [Value.slice.injEq] at eK
      obtain ⟨rfl, -, rfl⟩ := eK
      have dw := hcK j hlt1
      obtain ⟨x, HX⟩ : ∃ x, Hid (kl.getD j 0 = x) := ⟨_, Lib.hid rfl⟩
      rw [HX.out] at dw
      have d0 := HP.out.2.2.2.cell_some dw (fun hn => hn (World.block_lt_of_cell? w _ dw))
      have hj1 : (j : Int) < kn := by omega
      have hj2 : (j : Int) < 200 := by omega
      clear hcK dw
      go_wp2_with fail
      refine (HP.out.doIt x).mono ?_
      rintro e w3 ⟨rfl, h⟩
      have HP2 := Lib.hid h
      clear d0 h
      go_wp2
      go_roundw
      case rel => exact ⟨j + 1, by omega, by omega, by go_num, _, HP2⟩
      case measure => simp [intOf]; omega
    · have hb : ¬ (j : Int) < kn ∨ ((j : Int) < kn ∧ ¬ (j : Int) < 200) := by omega
      have HR0 : Hid (RndTo 0 s) := Lib.hid (rnd_start HP.out.1)
      clear hlt
      rcases hb with hb | ⟨hb1, hb2⟩
      all_goals
        go_wp2_with fail
        go_loopw [9] (fun i wr => ∃ p : Nat, p ≤ 100 ∧ i = .int .i64 p ∧ ∃ s, Hid (BRel w wr t l s ∧ RndTo p s)) (fun i _ => 100 - (intOf i).toNat)
        case atStart => exact ⟨0, Nat.zero_le _, rfl, s, Lib.hid ⟨HP.out, HR0.out⟩⟩
        case round =>
          clear HP HR0
          obtain ⟨p, hp100, rfl, s, HQ⟩ := hrel
          by_cases hp : p < 100
          · have hp1 : (p : Int) < 100 := by omega
            have HA := Lib.hid HQ.out.1
            have HN2 := Lib.hid (rnd_next HQ.out.1.1 HQ.out.2)
            clear HQ
            go_wp2_with fail
            refine (HA.out.doIt 0).mono ?_
            rintro e w3 ⟨rfl, h⟩
            have HA2 := Lib.hid h
            clear h HA
            go_wp2_with fail
            refine (HA2.out.doIt 4).mono ?_
            rintro e w4 ⟨rfl, h⟩
            have HA3 := Lib.hid h
            clear h HA2
            go_wp2_with fail
            refine (HA3.out.doIt 1).mono ?_
            rintro e w5 ⟨rfl, h⟩
            have HA4 := Lib.hid h
            clear h HA3
            go_wp2_with fail
            refine (HA4.out.doIt 4).mono ?_
            rintro e w6 ⟨rfl, h⟩
            have HA5 := Lib.hid h
            clear h HA4
            go_wp2_with fail
            refine (HA5.out.doIt 1).mono ?_
            rintro e w7 ⟨rfl, h⟩
            have HA6 := Lib.hid h
            clear h HA5
            go_wp2_with fail
            refine (HA6.out.doIt 4).mono ?_
            rintro e w8 ⟨rfl, h⟩
            have HA7 : Hid (BRel w w8 t l s.round ∧ RndTo (p + 1) s.round) := Lib.hid ⟨h, HN2.out⟩
            clear h HA6
            go_wp2
            go_roundw
            case rel => exact ⟨p + 1, by omega, by go_num, s.round, HA7⟩
            case measure => simp [intOf]; omega
          · have hp1 : ¬ (p : Int) < 100 := by omega
            obtain ⟨hgot, hsent⟩ := rnd_end HQ.out.1.1 (by omega) HQ.out.2
            have HB := Lib.hid HQ.out.1
            rw [HB.out.2.1] at hgot hsent
            rw [HN.out] at hsent
            have HGT := Lib.hid (bgot_any _ wr t s HB.out.2.2.1 (by have := HB.out.1.gle; have := HB.out.1.v20; omega))
            rw [hgot] at HGT
            have HSN := Lib.hid hsent
            clear hgot hsent HQ hp hp100
            go_wp2_with fail
            refine HGT.out.mono ?_
            rintro e w4 ⟨vg, rfl, hown, hc4⟩
            have HGV := Lib.hid (Rd.ofOwns (S := fun _ => True) hown (fun _ _ => trivial))
            rw [HN.out] at hown
            obtain ⟨ga, gc, rfl⟩ := owns_val hown
            have HB2 := Lib.hid (HB.out.keep hc4)
            clear hown hc4 HB HGT
            go_wp2_with fail
            refine (ints_any (fun _ => True) _ _ l l w4 HGV.out ((HR.out.keep HB2.out.2.2.2 (fun b hb hn => hn hb)).mono (fun _ _ _ => trivial)) HLB.out HLB.out).mono ?_
            rintro e w5 ⟨rfl, kz, rfl⟩
            simp only [decide_true]
            have HB3 := Lib.hid (HB2.out.keep ((Chg.refl NoF w4).drewN kz))
            clear HB2
            generalize w4.drewN kz = w6 at *
            go_wp2_with fail
            refine (bsent_any _ w6 t s HB3.out.2.2.1).mono ?_
            rintro e w7 ⟨rfl, rfl⟩
            rw [HSN.out]
            have hnn : ((n : Int) == (n : Int)) = true := by simp
            go_wp2
            go_ret
            exact ⟨rfl, HB3.out.2.2.2⟩

end Go.Proofs.Ytgpjjbfmckcjgaa
