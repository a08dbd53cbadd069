/-
  The walk of TopWire: the names that the ring carried, and the leader that it chose, come over two wires as they were sent.
  Conditions: the names, the steps and the kinds are read as lists of integers that fit an int.
-/
import Derived.Test.YtgpjjbfmckcjgaaTwA
import Derived.Test.YtgpjjbfmckcjgaaTwB
namespace Go.Proofs.Ytgpjjbfmckcjgaa
open Go Go.RowKit

theorem may00_any (w : World) : Calls Try.prog 16 #[.slice (some ⟨w.heap.size, 0, none⟩) 2 2, .int .i64 2] (w.alloc (.cells #[.int .i64 0, .int .i64 0] 3)) fun e w' => e = .returned (.tuple #[.int .i64 1, .nilIface]) ∧ Chg NoF w w' := by
  have e1 : setB (mayB [0, 0]) ([0, 0] : List Int).length = 1 := by decide
  have m1 := may_good (fun k => k = w.heap.size) _ [0, 0] 2 _ (Rd.built w 3 [0, 0] 2 _ rfl) (by decide)
  rw [e1] at m1
  refine m1.mono ?_
  rintro e w1 ⟨rfl, hc1⟩
  exact ⟨rfl, ((Chg.refl _ w).alloc _).trans hc1⟩

/-- The ring and the line, each made beside the other. -/
theorem wire_start {w w1 w2 w3 : World} {tr tl : Nat} {l : List Int} (h0 : elErr l = 0) (hc1 : Chg NoF w w1) (hin : RingIn (fun b => b < w.heap.size) w1 tr (Ring.init l)) (hc2 : Chg NoF w1 w2) (hbin : BIn (fun b => b < w1.heap.size) w2 tl (BNet.init l)) (hc3 : Chg NoF w2 w3) :
    ∃ SR : Nat → Prop, (∀ b, b < w.heap.size → SR b) ∧ WRel SR w3 w3 tr l (Ring.init l) ∧ ∀ wr s, WRel SR w3 wr tr l s →
      ∃ SB : Nat → Prop, (∀ b, b < w.heap.size → SB b) ∧ LRel SB wr wr tl l (BNet.init l) ∧ ∀ w4, Chg (fun k => ¬ SB k) wr w4 → RingIn SR w4 tr s := by
  have hz1 := hc1.size
  have hz2 := hc2.size
  have hz3 := hc3.size
  refine ⟨Plus (fun b => b < w.heap.size) w1 w3, fun b hb => .inl hb, WRel.start h0 (hin.more (hc2.trans hc3)), fun wr s hw => ?_⟩
  have hc := hw.2.2.2.2
  refine ⟨Plus (fun b => b < w1.heap.size) w3 wr, fun b hb => .inl (by omega), LRel.start (elErr_bn h0) ((hbin.keep hc3).adopt hc (fun b hb hf => ?_)), fun w4 hc4 => hw.2.2.2.1.other hc4 (fun b hb hf => ?_)⟩
  · refine Classical.byContradiction fun h => hf (.inr ⟨by omega, hb⟩)
  · refine .inr (Classical.byContradiction fun h => hf ?_)
    by_cases h1 : b < w1.heap.size
    · exact .inl h1
    · exact .inr ⟨by omega, hb⟩

set_option maxHeartbeats 8000000 in
set_option maxRecDepth 100000 in
theorem wire_walk (v sv kv : Value) (l sc kl : List Int) (w : World) (hr : Rd (fun k => k < w.heap.size) w v l) (hs : Rd (fun k => k < w.heap.size) w sv sc) (hk : Rd (fun k => k < w.heap.size) w kv kl) (hlb : l.length ≤ 9223372036854775807) (hsb : sc.length ≤ 9223372036854775807) (hkb : kl.length ≤ 9223372036854775807)
    (hwf : ∀ j, j < sc.length → -9223372036854775808 ≤ sc.getD j 0 ∧ sc.getD j 0 ≤ 9223372036854775807) :
    Calls Try.prog 5 #[v, sv, kv] w fun e w' => e = .returned (.bool true) ∧ Chg (NewB w) w w' := by
  have HR := Lib.hid hr
  have HS := Lib.hid hs
  have HK := Lib.hid hk
  have HWF := Lib.hid hwf
  have HLB := Lib.hid hlb
  have HNEW := Lib.hid (new_any _ v l w hr hlb)
  have HBN := Lib.hid (fun w1 (h1 : Rd (fun k => k < w.heap.size) w1 v l) => bnew_any _ w1 v l h1 hlb)
  have HMAY := Lib.hid may00_any
  clear hr hs hk hwf
  go_enter Try.func5, Try.ntmps5
  go_wp2_with fail
  refine HNEW.out.mono ?_
  rintro e w1 ⟨hc1, hnew⟩
  have HC1 := Lib.hid hc1
  clear hc1 HNEW
  rcases hnew with ⟨hne, rfl⟩ | ⟨hok, tr, rfl, hin⟩
  · obtain ⟨ec, hEC⟩ : ∃ ec, Hid (elErr l = ec) := ⟨_, Lib.hid rfl⟩
    rw [hEC.out] at hne ⊢
    rw [show errV ec = .iface 41 (.int .i64 ec) by unfold errV; rw [if_neg hne]]
    clear hne
    go_wp2_with fail
    refine (HBN.out w1 (HR.out.keep HC1.out fun _ _ h => h)).mono ?_
    rintro e w2 ⟨hc2, hb⟩
    have HC2 := Lib.hid (HC1.out.trans hc2)
    clear hc2
    obtain ⟨pb, eb, rfl⟩ : ∃ pb eb, e = .returned (.tuple #[pb, eb]) := by
      rcases hb with ⟨_, rfl⟩ | ⟨_, t, rfl, _⟩
      · exact ⟨_, _, rfl⟩
      · exact ⟨_, _, rfl⟩
    clear hb
    go_wp2_with fail
    refine (HMAY.out w2).mono ?_
    rintro e w3 ⟨rfl, hc3⟩
    have HC3 := Lib.hid (HC2.out.trans hc3)
    clear hc3
    go_wp2
    go_ret
    exact ⟨rfl, HC3.out.ofNo⟩
  go_wp2_with fail
  refine (HBN.out w1 (HR.out.keep HC1.out fun _ _ h => h)).mono ?_
  rintro e w2 ⟨hc2, hb⟩
  rcases hb with ⟨hb, _⟩ | ⟨_, tl, rfl, hbin⟩
  · exact absurd (elErr_bn hok) hb
  go_wp2_with fail
  refine (HMAY.out w2).mono ?_
  rintro e w3 ⟨rfl, hc3⟩
  have HC3 : Hid (Chg NoF w w3) := Lib.hid (HC1.out.trans (hc2.trans hc3))
  obtain ⟨hl0, hl5, _, _⟩ := elErr_ok hok
  obtain ⟨SR, hSR0, hW0, hFO⟩ := wire_start hok HC1.out hin hc2 hbin hc3
  have HSR := Lib.hid hSR0
  have HREL := Lib.hid hW0
  have HFO := Lib.hid hFO
  clear hc2 hc3 hbin hin hok hSR0 hW0 hFO HBN HMAY HC1
  have KEEP : Hid (∀ wr, Chg (fun k => ¬ SR k) w3 wr → Chg (NewB w) w wr) := Lib.hid fun wr h => HC3.out.ofNo.trans (h.mono fun b _ hb hlt => hb (HSR.out b hlt))
  obtain ⟨pv, cv, rfl⟩ := HR.out.val
  obtain ⟨ps, cs, rfl⟩ := HS.out.val
  obtain ⟨pk, ck, rfl⟩ := HK.out.val
  obtain ⟨n, hN⟩ : ∃ n, Hid (l.length = n) := ⟨_, Lib.hid rfl⟩
  obtain ⟨sl, hSL⟩ : ∃ sl, Hid (sc.length = sl) := ⟨_, Lib.hid rfl⟩
  obtain ⟨kn, hKN⟩ : ∃ kn, Hid (kl.length = kn) := ⟨_, Lib.hid rfl⟩
  rw [hN.out] at hl0 hl5 HR
  rw [hSL.out] at hsb HS HWF
  rw [hKN.out] at hkb HK
  rw [hN.out, hSL.out, hKN.out]
  clear hlb
  go_wp2_with fail
  go_loopw [13] (fun i wr => ∃ k : Nat, k ≤ sl ∧ k ≤ 60 ∧ i = .int .i64 k ∧ ∃ s, Hid (WRel SR w3 wr tr l s)) (fun i _ => 60 - (intOf i).toNat)
  case atStart => exact ⟨0, Nat.zero_le _, Nat.zero_le _, rfl, _, HREL⟩
  case round =>
    obtain ⟨k, hksl, hk100, rfl, s, HREL'⟩ := hrel
    by_cases hlt : k < sl ∧ k < 60
    · obtain ⟨hlt1, hlt2⟩ := hlt
      obtain ⟨b, off, c, e1, hbS, hc⟩ := HS.out.form (by rw [hSL.out]; omega)
      simp only [Value.slice.injEq] at e1
      obtain ⟨rfl, -, rfl⟩ := e1
      have hcell := (KEEP.out _ HREL'.out.2.2.2.2).cell_some (hc k (by rw [hSL.out]; omega)) (fun h => absurd hbS h)
      have hb := HWF.out k hlt1
      obtain ⟨x, hX⟩ : ∃ x, Hid (sc.getD k 0 = x) := ⟨_, Lib.hid rfl⟩
      rw [hX.out] at hcell hb
      obtain ⟨hb1, hb2⟩ := hb
      have hk0 : (0 : Int) ≤ k := by omega
      have hk1 : (k : Int) < sl := by omega
      have hk2 : (k : Int) < 60 := by omega
      have hsent : (s.sent : Int) < 1000000 := by have := HREL'.out.sent; omega
      clear hc
      obtain ⟨s2, hS2⟩ : ∃ s2, Hid (s.act x = s2) := ⟨_, Lib.hid rfl⟩
      have AFTER : Hid (∀ (wa : World), RingIn SR wa tr s2 → Chg (fun k => ¬ SR k) wr wa → WRel SR w3 wa tr l s2) := Lib.hid fun wa h1 h2 => by
        rw [← hS2.out] at h1 ⊢; exact HREL'.out.act x h1 h2
      by_cases hx0 : 0 ≤ x
      · have HB := Lib.hid (begin_any _ wr tr s HREL'.out.2.2.2.1 x hsent)
        have hact : s.beg x = s2 := by rw [← hS2.out]; unfold Ring.act; rw [if_pos hx0]
        have HACT := Lib.hid hact
        clear hact
        go_wp2_with fail
        refine HB.out.mono ?_
        rintro e wa ⟨rfl, hin, hc⟩
        have HRA := Lib.hid (AFTER.out wa (HACT.out ▸ hin) hc)
        clear hin hc HB AFTER
        have HKK : Hid (k < sl ∧ k < 60) := Lib.hid ⟨hlt1, hlt2⟩
        clear hb1 hb2 hcell hx0 hk0 hk1 hsent
        go_wp2
        go_roundw
        case rel => exact ⟨k + 1, by omega, by omega, by go_num, s2, HRA⟩
        case measure => simp [intOf]; omega
      · have HB := Lib.hid (step_any _ wr tr s HREL'.out.2.2.2.1 (-1 - x) hsent)
        have hact : s.step (-1 - x) = s2 := by rw [← hS2.out]; unfold Ring.act; rw [if_neg hx0]
        have HACT := Lib.hid hact
        have hx1 : x < 0 := by omega
        clear hact
        go_wp2_with fail
        refine HB.out.mono ?_
        rintro e wa ⟨rfl, hin, hc⟩
        have HRA := Lib.hid (AFTER.out wa (HACT.out ▸ hin) hc)
        clear hin hc HB AFTER
        have HKK : Hid (k < sl ∧ k < 60) := Lib.hid ⟨hlt1, hlt2⟩
        clear hb1 hb2 hcell hx0 hk0 hk1 hsent
        go_wp2
        go_roundw
        case rel => exact ⟨k + 1, by omega, by omega, by go_num, s2, HRA⟩
        case measure => simp [intOf]; omega
    · have hb : ¬ (k : Int) < sl ∨ ((k : Int) < sl ∧ ¬ (k : Int) < 60) := by omega
      clear hlt
      have HB := Lib.hid (begin_any _ wr tr s HREL'.out.2.2.2.1 0 (by have := HREL'.out.sent; omega))
      have HMV := Lib.hid (Moves.beg HREL'.out.1 0)
      have HBZ := Lib.hid (beg_zero HREL'.out.1)
      obtain ⟨s1, hS1⟩ : ∃ s1, Hid (s.beg 0 = s1) := ⟨_, Lib.hid rfl⟩
      rw [hS1.out] at HMV HBZ
      rcases hb with hb | ⟨hb1, hb2⟩
      all_goals
        go_wp2_with fail
        refine HB.out.mono ?_
        rintro e wa ⟨rfl, hin, hc⟩
        rw [hS1.out] at hin
        have HRA : Hid (WGo SR w3 wa tr l 0 s1) := Lib.hid ⟨HREL'.out.moved HMV.out hin hc, HBZ.out, .inr (HREL'.out.moved HMV.out hin hc).pot⟩
        clear hin hc HB
        go_wp2_with fail
        go_loopw [15] (fun i wb => ∃ r : Nat, r ≤ 80 ∧ i = .int .i64 r ∧ ∃ s, Hid (WGo SR w3 wb tr l r s)) (fun i _ => 80 - (intOf i).toNat)
        case atStart => exact ⟨0, Nat.zero_le _, rfl, s1, HRA⟩
        case round =>
          obtain ⟨r, hr80, rfl, sr, HG⟩ := hrel
          by_cases hr : r < 80
          · obtain ⟨p, hp, hin0⟩ := HG.out.start
            have HP := Lib.hid hp
            have HIN0 := Lib.hid hin0
            have hr1 : (r : Int) < 80 := by omega
            clear hp hin0
            go_wp2_with fail
            go_loopw [16] (fun j wi => ∃ q : Nat, q ≤ n ∧ j = .int .i64 q ∧ ∃ s, Hid (WIn SR w3 wi tr l p q s)) (fun j _ => n - (intOf j).toNat)
            case atStart => exact ⟨0, Nat.zero_le _, rfl, sr, HIN0⟩
            case round =>
              obtain ⟨q, hqn, rfl, sq, HI⟩ := hrel
              by_cases hq : q < n
              · have hq1 : (q : Int) < n := by omega
                have hqs : q < sq.names.length := by rw [HI.out.1.2.1, hN.out]; exact hq
                have HST := Lib.hid (step_any _ _ tr sq HI.out.1.2.2.2.1 q (by have := HI.out.1.sent; omega))
                have HQS := Lib.hid hqs
                clear hqs
                go_wp2_with fail
                refine HST.out.mono ?_
                rintro e wc ⟨rfl, hin, hc⟩
                have HI2 := Lib.hid (HI.out.step HQS.out hin hc)
                clear hin hc HST
                go_wp2
                go_roundw
                case rel => exact ⟨q + 1, by omega, by go_num, _, HI2⟩
                case measure => simp [intOf]; omega
              · have hq1 : ¬ (q : Int) < n := by omega
                have HG2 : Hid (WGo SR w3 _ tr l (r + 1) sq) := Lib.hid (WIn.done (by rw [HI.out.1.2.1, hN.out, show n = q by omega]; exact HI.out) HP.out)
                go_wp2
                go_roundw
                case rel => exact ⟨r + 1, by omega, by go_num, sq, HG2⟩
                case measure => simp [intOf]; omega
          · have hr2 : ¬ (r : Int) < 80 := by omega
            have hae : AllEmpty sr := by
              rcases HG.out.2.2 with h | h
              · exact h
              · omega
            have hch := chosen HG.out.1.1 hae HG.out.2.1
            obtain ⟨u, hun, hlu, hmax⟩ := hch
            have HMAX : Hid (∀ j, j < n → l.getD j 0 ≤ l.getD u 0) := Lib.hid (fun j hj => by
              rw [HG.out.1.2.1] at hmax
              exact hmax j (by rw [hN.out]; exact hj))
            have HUN : Hid (u < n) := Lib.hid (by rw [HG.out.1.2.1, hN.out] at hun; exact hun)
            have HLU := Lib.hid hlu
            obtain ⟨w4, hw4⟩ : ∃ x, x = wr := ⟨_, rfl⟩
            rw [← hw4] at HG ⊢
            clear hw4
            obtain ⟨SB, hSB0, hL0, hfin⟩ := HFO.out _ _ HG.out.1
            have HSB := Lib.hid hSB0
            have HL0 := Lib.hid hL0
            have HFIN := Lib.hid hfin
            have HK4 := Lib.hid (KEEP.out _ HG.out.1.2.2.2.2)
            have KEEP4 : Hid (∀ wr, Chg (fun k => ¬ SB k) w4 wr → Chg (NewB w) w wr) := Lib.hid fun wr h => HK4.out.trans (h.mono fun b _ hb hlt => hb (HSB.out b hlt))
            clear hae hmax hun hlu hr hr80 hSB0 hL0 hfin HFO HREL HREL' HRA HMV HBZ HG KEEP
            go_wp2_with fail
            go_loopw [17] (fun i wr => ∃ j : Nat, j ≤ kn ∧ j ≤ 100 ∧ i = .int .i64 j ∧ ∃ s, Hid (LRel SB w4 wr tl l s)) (fun i _ => 100 - (intOf i).toNat)
            case atStart => exact ⟨0, Nat.zero_le _, Nat.zero_le _, rfl, _, HL0⟩
            case round =>
              clear HL0
              obtain ⟨j, hjk, hj200, rfl, s', HP⟩ := hrel
              by_cases hlt : j < kn ∧ j < 100
              · obtain ⟨hlt1, hlt2⟩ := hlt
                obtain ⟨bK, oK, cK, eK, -, hcK⟩ := HK.out.form (by rw [hKN.out]; omega)
                rw [hKN.out] at eK hcK
                simp only [Value.slice.injEq] at eK
                obtain ⟨rfl, -, rfl⟩ := eK
                have dw := hcK j hlt1
                obtain ⟨x, HX⟩ : ∃ x, Hid (kl.getD j 0 = x) := ⟨_, Lib.hid rfl⟩
                rw [HX.out] at dw
                have d0 := (KEEP4.out _ HP.out.2.2.2).cell_some dw (fun hn => hn (World.block_lt_of_cell? w _ dw))
                have hj1 : (j : Int) < kn := by omega
                have hj2 : (j : Int) < 100 := by omega
                clear hcK dw
                go_wp2_with fail
                refine (HP.out.doIt x).mono ?_
                rintro e w5 ⟨rfl, h⟩
                have HP2 := Lib.hid h
                clear d0 h
                go_wp2
                go_roundw
                case rel => exact ⟨j + 1, by omega, by omega, by go_num, _, HP2⟩
                case measure => simp [intOf]; omega
              · have hb : ¬ (j : Int) < kn ∨ ((j : Int) < kn ∧ ¬ (j : Int) < 100) := by omega
                have HR0 : Hid (RndTo 0 s') := Lib.hid (rnd_start HP.out.1)
                clear hlt
                rcases hb with hb | ⟨hb1, hb2⟩
                all_goals
                  go_wp2_with fail
                  go_loopw [18] (fun i wr => ∃ p : Nat, p ≤ 60 ∧ i = .int .i64 p ∧ ∃ s, Hid (LRel SB w4 wr tl l s ∧ RndTo p s)) (fun i _ => 60 - (intOf i).toNat)
                  case atStart => exact ⟨0, Nat.zero_le _, rfl, s', Lib.hid ⟨HP.out, HR0.out⟩⟩
                  case round =>
                    clear HP HR0
                    obtain ⟨p, hp100, rfl, s', HQ⟩ := hrel
                    by_cases hp : p < 60
                    · have hp1 : (p : Int) < 60 := by omega
                      have HA := Lib.hid HQ.out.1
                      have HN2 := Lib.hid (rnd_next HQ.out.1.1 HQ.out.2)
                      clear HQ
                      go_wp2_with fail
                      refine (HA.out.doIt 0).mono ?_
                      rintro e w5 ⟨rfl, h⟩
                      have HA2 := Lib.hid h
                      clear h HA
                      go_wp2_with fail
                      refine (HA2.out.doIt 4).mono ?_
                      rintro e w6 ⟨rfl, h⟩
                      have HA3 := Lib.hid h
                      clear h HA2
                      go_wp2_with fail
                      refine (HA3.out.doIt 1).mono ?_
                      rintro e w7 ⟨rfl, h⟩
                      have HA4 := Lib.hid h
                      clear h HA3
                      go_wp2_with fail
                      refine (HA4.out.doIt 4).mono ?_
                      rintro e w8 ⟨rfl, h⟩
                      have HA5 := Lib.hid h
                      clear h HA4
                      go_wp2_with fail
                      refine (HA5.out.doIt 1).mono ?_
                      rintro e w9 ⟨rfl, h⟩
                      have HA6 := Lib.hid h
                      clear h HA5
                      go_wp2_with fail
                      refine (HA6.out.doIt 4).mono ?_
                      rintro e w10 ⟨rfl, h⟩
                      have HA7 : Hid (LRel SB w4 w10 tl l s'.round ∧ RndTo (p + 1) s'.round) := Lib.hid ⟨h, HN2.out⟩
                      clear h HA6
                      go_wp2
                      go_roundw
                      case rel => exact ⟨p + 1, by omega, by go_num, s'.round, HA7⟩
                      case measure => simp [intOf]; omega
                    · have hp1 : ¬ (p : Int) < 60 := by omega
                      obtain ⟨hgot, -⟩ := rnd_end HQ.out.1.1 (by omega) HQ.out.2
                      have HB := Lib.hid HQ.out.1
                      rw [HB.out.2.1] at hgot
                      have HGT := Lib.hid (bgot_any _ _ tl s' HB.out.2.2.1 (by have := HB.out.1.gle; have := HB.out.1.v20; omega))
                      rw [hgot] at HGT
                      clear hgot HQ hp hp100
                      go_wp2_with fail
                      refine HGT.out.mono ?_
                      rintro e w5 ⟨vg, rfl, hown, hc5⟩
                      have HGV := Lib.hid (Rd.ofOwns (S := fun _ => True) hown (fun _ _ => trivial))
                      rw [hN.out] at hown
                      obtain ⟨ga, gc, rfl⟩ := owns_val hown
                      have HB2 := Lib.hid (HB.out.keep hc5)
                      have HLD := Lib.hid (leader_any _ w5 tr sr (HFIN.out w5 HB2.out.2.2.2))
                      rw [HLU.out] at HLD
                      obtain ⟨ld, hLD⟩ : ∃ ld : Int, Hid ((u : Int) = ld) := ⟨_, Lib.hid rfl⟩
                      rw [hLD.out] at HLD
                      have hd0 : (0 : Int) ≤ ld := by rw [← hLD.out]; omega
                      have hd1 : ld < n := by rw [← hLD.out]; have := HUN.out; omega
                      clear hown hc5 HB HGT
                      go_wp2_with fail
                      refine HLD.out.mono ?_
                      rintro e w6 ⟨rfl, rfl⟩
                      go_wp2_with fail
                      refine (ints_any (fun _ => True) _ _ l l w5 HGV.out ((HR.out.keep (KEEP4.out _ HB2.out.2.2.2) (fun b hb hn => hn hb)).mono (fun _ _ _ => trivial)) HLB.out HLB.out).mono ?_
                      rintro e w6 ⟨rfl, kz, rfl⟩
                      simp only [decide_true]
                      have HB3 := Lib.hid (HB2.out.keep ((Chg.refl NoF w5).drewN kz))
                      have HGV2 := Lib.hid (HGV.out.keep ((Chg.refl NoF w5).drewN kz) (fun _ _ h => h))
                      clear HB2 HGV
                      generalize w5.drewN kz = w6 at *
                      go_wp2_with fail
                      refine (topIn_any _ _ _ _).mono ?_
                      rintro e w7 ⟨rfl, rfl⟩
                      have hin1 : inB ld 0 ((n : Int) - 1) = true := by unfold inB; simp; omega
                      rw [hin1]
                      clear hin1
                      go_wp2_with fail
                      go_loopw [21] (fun j wi => ∃ q : Nat, q ≤ n ∧ j = .int .i64 q ∧ Hid (Chg NoF w6 wi)) (fun j _ => n - (intOf j).toNat)
                      case atStart => exact ⟨0, Nat.zero_le _, rfl, Lib.hid (Chg.refl _ _)⟩
                      case round =>
                        obtain ⟨q, hqn, rfl, HE⟩ := hrel
                        by_cases hq : q < n
                        · obtain ⟨b, off, c, e1, -, hc⟩ := (HGV2.out.keep HE.out (fun _ _ h => h)).form (by rw [hN.out]; omega)
                          simp only [Value.slice.injEq] at e1
                          obtain ⟨rfl, -, rfl⟩ := e1
                          have hcq := hc q (by rw [hN.out]; omega)
                          have hcl := hc u (by rw [hN.out]; exact HUN.out)
                          have hle := HMAX.out q hq
                          obtain ⟨x, hX⟩ : ∃ x, Hid (l.getD q 0 = x) := ⟨_, Lib.hid rfl⟩
                          obtain ⟨y, hY⟩ : ∃ y, Hid (l.getD u 0 = y) := ⟨_, Lib.hid rfl⟩
                          rw [hX.out] at hcq hle
                          rw [hY.out] at hcl hle
                          have htu : (ld.toNat) = u := by rw [← hLD.out]; simp
                          have hq1 : (q : Int) < n := by omega
                          have HQN : Hid (q + 1 ≤ n) := Lib.hid hq
                          have hgt : decide (y < x) = false := by rw [decide_eq_false_iff_not]; omega
                          clear hc
                          go_wp2
                          go_quiet (fail)
                          go_wp2
                          go_roundw
                          case rel => exact ⟨q + 1, HQN.out, by go_num, Lib.hid (HE.out.drewN _)⟩
                          case measure => have := HQN.out; simp [intOf]; omega
                        · have hq1 : ¬ (q : Int) < n := by omega
                          go_wp2
                          go_ret
                          exact ⟨rfl, (KEEP4.out _ HB3.out.2.2.2).trans HE.out.ofNo⟩

end Go.Proofs.Ytgpjjbfmckcjgaa
