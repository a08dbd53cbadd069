/-
  The walk of ElectGoes: once anybody began, if all hear in turn, the greatest is chosen, and nothing is on any way.
  Conditions: the names and the steps are read as lists of integers that fit an int.
-/
import Derived.Test.YtgpjjbfmckcjgaaElE
namespace Go.Proofs.Ytgpjjbfmckcjgaa
open Go Go.RowKit

def AllEmpty (s : Ring) : Prop := ∀ j, j < s.names.length → s.way j = []

theorem step_empty {s : Ring} {i : Int} (h : AllEmpty s) : s.step i = s := by
  unfold Ring.step
  rw [if_neg]
  unfold Ring.stErr
  split
  · omega
  · rename_i hh
    obtain ⟨k, rfl, hk⟩ := has_iff s i (by simpa using hh)
    rw [Int.toNat_natCast, if_pos (h k hk)]; omega

/-- What is known at node k of a round that began with so much that may happen. -/
def InRound (p : Nat) (k : Nat) (s : Ring) : Prop := EInv s ∧ (AllEmpty s ∨ pot s + 1 ≤ p ∨ (pot s ≤ p ∧ ∃ j, k ≤ j ∧ j < s.names.length ∧ s.way j ≠ []))

theorem InRound.start {s : Ring} (h : EInv s) : InRound (pot s) 0 s := by
  refine ⟨h, ?_⟩
  by_cases he : AllEmpty s
  · exact .inl he
  · refine .inr (.inr ⟨Nat.le_refl _, Classical.byContradiction fun hn => he fun j hj => Classical.byContradiction fun hw => hn ⟨j, Nat.zero_le _, hj, hw⟩⟩)

theorem InRound.step {p k : Nat} {s : Ring} (h : InRound p k s) (hk : k < s.names.length) : InRound p (k + 1) (s.step k) := by
  obtain ⟨hi, h⟩ := h
  obtain ⟨hm, hd, hw⟩ := Moves.step hi (k : Int)
  refine ⟨hm.inv, ?_⟩
  rcases h with h | h | ⟨h, j, hkj, hj, hne⟩
  · rw [step_empty h]; exact .inl h
  · exact .inr (.inl (by have := hm.dn; omega))
  · by_cases e : j = k
    · subst e
      refine .inr (.inl ?_)
      have : s.stErr j = 0 := by
        unfold Ring.stErr
        rw [if_neg (by simp [Ring.has, inB]; omega), if_neg (by rw [Int.toNat_natCast]; exact hne)]
      have := hd this; omega
    · exact .inr (.inr ⟨by have := hm.dn; omega, j, by omega, by rw [hm.nm]; exact hj, hw j (by omega) hne⟩)

theorem InRound.done {p : Nat} {s : Ring} (h : InRound p s.names.length s) : AllEmpty s ∨ pot s + 1 ≤ p := by
  rcases h.2 with h | h | ⟨_, j, h1, h2, _⟩
  · exact .inl h
  · exact .inr h
  · omega

/-- Who is chosen when nothing is on any way any more. -/
theorem chosen {s : Ring} (h : EInv s) (he : AllEmpty s) (hb : s.begun.getD 0 false = true) : ∃ k : Nat, k < s.names.length ∧ s.leader = k ∧ IsMax s.names k := by
  have hne : s.leader ≠ -1 := by
    rcases h.live with hl | hl
    · exact hl
    · obtain ⟨j, hj, y, hy, _⟩ := hl 0 h.l3 hb
      rw [he j hj] at hy; cases hy
  rcases h.lead with hl | hl
  · exact absurd hl hne
  · exact hl

theorem beg_zero {s : Ring} (h : EInv s) : (s.beg 0).begun.getD 0 false = true := by
  have hh : s.has 0 = true := by have := h.l3; simp [Ring.has, inB]; omega
  unfold Ring.beg
  by_cases he : s.bgErr 0 = 0
  · rw [if_pos he]
    show (s.mark 0).begun.getD 0 false = true
    rw [begun_mark s 0 (by rw [h.l1]; exact h.l3) 0, if_pos rfl]
  · rw [if_neg he]
    unfold Ring.bgErr at he
    rw [if_neg (by rw [hh]; simp)] at he
    exact Classical.byContradiction fun hn => he (if_neg hn)

theorem ElRel.moved {w wr wr' : World} {t : Nat} {l : List Int} {s s' : Ring} (h : ElRel w wr t l s) (hm : Moves s s') (hin : RingIn (fun b => b < w.heap.size) wr' t s') (hc : Chg (NewB w) wr wr') : ElRel w wr' t l s' := by
  obtain ⟨h1, h2, h3, _, h5⟩ := h
  exact ⟨hm.inv, hm.nm.trans h2, by have := hm.tot; omega, hin, h5.trans hc⟩

theorem ElRel.pot {w wr : World} {t : Nat} {l : List Int} {s : Ring} (h : ElRel w wr t l s) : pot s ≤ 20 := by
  obtain ⟨h1, h2, h3, _, _⟩ := h
  have h5 : l.length ≤ 5 := by rw [← h2]; exact h1.l4
  have : l.length * (l.length + 1) ≤ 5 * 6 := Nat.mul_le_mul h5 (by omega)
  omega

/-- What the rounds know. -/
def GoRel (w wr : World) (t : Nat) (l : List Int) (r : Nat) (s : Ring) : Prop :=
  ElRel w wr t l s ∧ s.begun.getD 0 false = true ∧ (AllEmpty s ∨ pot s + r ≤ 20)

def InRel (w wr : World) (t : Nat) (l : List Int) (p q : Nat) (s : Ring) : Prop :=
  ElRel w wr t l s ∧ s.begun.getD 0 false = true ∧ InRound p q s

theorem GoRel.start {w wr : World} {t : Nat} {l : List Int} {r : Nat} {s : Ring} (h : GoRel w wr t l r s) : ∃ p, (p = 0 ∨ p + r ≤ 20) ∧ InRel w wr t l p 0 s := by
  obtain ⟨h1, h2, h3⟩ := h
  rcases h3 with h3 | h3
  · exact ⟨0, .inl rfl, h1, h2, h1.1, .inl h3⟩
  · exact ⟨pot s, .inr h3, h1, h2, InRound.start h1.1⟩

theorem InRel.done {w wr : World} {t : Nat} {l : List Int} {p r : Nat} {s : Ring} (h : InRel w wr t l p s.names.length s) (hp : p = 0 ∨ p + r ≤ 20) : GoRel w wr t l (r + 1) s := by
  obtain ⟨h1, h2, h3⟩ := h
  refine ⟨h1, h2, ?_⟩
  rcases h3.done with h | h
  · exact .inl h
  · right; omega

theorem InRel.step {w wr wr' : World} {t : Nat} {l : List Int} {p q : Nat} {s : Ring} (h : InRel w wr t l p q s) (hq : q < s.names.length) (hin : RingIn (fun b => b < w.heap.size) wr' t (s.step q)) (hc : Chg (NewB w) wr wr') : InRel w wr' t l p (q + 1) (s.step q) := by
  obtain ⟨h1, h2, h3⟩ := h
  have hm := (Moves.step h1.1 (q : Int)).1
  exact ⟨h1.moved hm hin hc, hm.bg 0 h2, h3.step hq⟩

set_option maxHeartbeats 8000000 in
set_option maxRecDepth 100000 in
theorem goes_walk (v sv : Value) (l sc : List Int) (w : World) (hr : Rd (fun k => k < w.heap.size) w v l) (hs : Rd (fun k => k < w.heap.size) w sv sc) (hlb : l.length ≤ 9223372036854775807) (hsb : sc.length ≤ 9223372036854775807)
    (hwf : ∀ j, j < sc.length → -9223372036854775808 ≤ sc.getD j 0 ∧ sc.getD j 0 ≤ 9223372036854775807) :
    Calls Try.prog 4 #[v, sv] w fun e w' => e = .returned (.bool true) ∧ Chg (NewB w) w w' := by
  have HR := Lib.hid hr
  have HS := Lib.hid hs
  have HWF := Lib.hid hwf
  have HNEW := Lib.hid (fun w1 (h1 : Rd (fun k => k < w.heap.size) w1 v l) => new_any _ v l w1 h1 hlb)
  clear hr hs hwf
  go_enter Try.func4, Try.ntmps4
  go_wp2_with fail
  refine (electFact_any w).mono ?_
  rintro e w1 ⟨rfl, hc1⟩
  go_wp2_with fail
  refine (HNEW.out w1 (HR.out.keep hc1 fun _ _ h => h)).mono ?_
  rintro e w2 ⟨hc2, hnew⟩
  have HC1 := Lib.hid hc1
  have HC2 := Lib.hid hc2
  clear HNEW hc1 hc2
  rcases hnew with ⟨hne, rfl⟩ | ⟨hok, t, rfl, hin⟩
  · obtain ⟨ec, hEC⟩ : ∃ ec, Hid (elErr l = ec) := ⟨_, Lib.hid rfl⟩
    rw [hEC.out] at hne ⊢
    rw [show errV ec = .iface 41 (.int .i64 ec) by unfold errV; rw [if_neg hne]]
    clear hne
    go_wp2
    go_ret
    exact ⟨rfl, (HC1.out.trans HC2.out).ofNo⟩
  have HREL := Lib.hid (ElRel.start hok HC1.out HC2.out hin)
  obtain ⟨hl0, hl5, _, _⟩ := elErr_ok hok
  clear hok hin
  obtain ⟨pv, cv, rfl⟩ := HR.out.val
  obtain ⟨ps, cs, rfl⟩ := HS.out.val
  obtain ⟨n, hN⟩ : ∃ n, Hid (l.length = n) := ⟨_, Lib.hid rfl⟩
  obtain ⟨sl, hSL⟩ : ∃ sl, Hid (sc.length = sl) := ⟨_, Lib.hid rfl⟩
  rw [hN.out] at hl0 hl5 HR
  rw [hSL.out] at hsb HS HWF
  rw [hN.out, hSL.out]
  clear hlb
  go_wp2_with fail
  go_loopw [8] (fun i wr => ∃ k : Nat, k ≤ sl ∧ k ≤ 100 ∧ i = .int .i64 k ∧ ∃ s, Hid (ElRel w wr t l s)) (fun i _ => 100 - (intOf i).toNat)
  case atStart => exact ⟨0, Nat.zero_le _, Nat.zero_le _, rfl, _, HREL⟩
  case round =>
    obtain ⟨k, hksl, hk100, rfl, s, HREL'⟩ := hrel
    by_cases hlt : k < sl ∧ k < 100
    · obtain ⟨hlt1, hlt2⟩ := hlt
      obtain ⟨b, off, c, e1, hbS, hc⟩ := HS.out.form (by rw [hSL.out]; omega)
      simp only [Value.slice.injEq] at e1
      obtain ⟨rfl, -, rfl⟩ := e1
      have hcell := HREL'.out.2.2.2.2.cell_some (hc k (by rw [hSL.out]; omega)) (fun h => absurd hbS h)
      have hb := HWF.out k hlt1
      obtain ⟨x, hX⟩ : ∃ x, Hid (sc.getD k 0 = x) := ⟨_, Lib.hid rfl⟩
      rw [hX.out] at hcell hb
      obtain ⟨hb1, hb2⟩ := hb
      have hk0 : (0 : Int) ≤ k := by omega
      have hk1 : (k : Int) < sl := by omega
      have hk2 : (k : Int) < 100 := by omega
      have hsent : (s.sent : Int) < 1000000 := by have := HREL'.out.sent; omega
      clear hc
      obtain ⟨s2, hS2⟩ : ∃ s2, Hid (s.act x = s2) := ⟨_, Lib.hid rfl⟩
      -- what stands behind the deed
      have after : ∀ (e : Ending) (wa : World), RingIn (fun b => b < w.heap.size) wa t s2 → Chg (NewB w) wr wa → ElRel w wa t l s2 := fun e wa h1 h2 => by
        rw [← hS2.out] at h1 ⊢; exact HREL'.out.act x h1 h2
      have AFTER := Lib.hid after
      clear after
      by_cases hx0 : 0 ≤ x
      · have HB := Lib.hid (begin_any _ wr t s HREL'.out.2.2.2.1 x hsent)
        have hact : s.beg x = s2 := by rw [← hS2.out]; unfold Ring.act; rw [if_pos hx0]
        have HACT := Lib.hid hact
        clear hact
        go_wp2_with fail
        refine HB.out.mono ?_
        rintro e wa ⟨rfl, hin, hc⟩
        have HRA := Lib.hid (AFTER.out .outgrown wa (HACT.out ▸ hin) hc)
        clear hin hc HB AFTER
        have HKK : Hid (k < sl ∧ k < 100) := Lib.hid ⟨hlt1, hlt2⟩
        clear hb1 hb2 hcell hx0 hk0 hk1 hsent
        go_wp2
        go_roundw
        case rel => exact ⟨k + 1, by omega, by omega, by go_num, s2, HRA⟩
        case measure => simp [intOf]; omega
      · have HB := Lib.hid (step_any _ wr t s HREL'.out.2.2.2.1 (-1 - x) hsent)
        have hact : s.step (-1 - x) = s2 := by rw [← hS2.out]; unfold Ring.act; rw [if_neg hx0]
        have HACT := Lib.hid hact
        have hx1 : x < 0 := by omega
        clear hact
        go_wp2_with fail
        refine HB.out.mono ?_
        rintro e wa ⟨rfl, hin, hc⟩
        have HRA := Lib.hid (AFTER.out .outgrown wa (HACT.out ▸ hin) hc)
        clear hin hc HB AFTER
        have HKK : Hid (k < sl ∧ k < 100) := Lib.hid ⟨hlt1, hlt2⟩
        clear hb1 hb2 hcell hx0 hk0 hk1 hsent
        go_wp2
        go_roundw
        case rel => exact ⟨k + 1, by omega, by omega, by go_num, s2, HRA⟩
        case measure => simp [intOf]; omega
    · by_cases h1 : k < sl
      · have h2 : ¬ (k : Int) < 100 := by omega
        have h3 : (k : Int) < sl := by omega
        clear hlt
        have HB := Lib.hid (begin_any _ wr t s HREL'.out.2.2.2.1 0 (by have := HREL'.out.sent; omega))
        have HMV := Lib.hid (Moves.beg HREL'.out.1 0)
        have HBZ := Lib.hid (beg_zero HREL'.out.1)
        obtain ⟨s1, hS1⟩ : ∃ s1, Hid (s.beg 0 = s1) := ⟨_, Lib.hid rfl⟩
        rw [hS1.out] at HMV HBZ
        go_wp2_with fail
        refine HB.out.mono ?_
        rintro e wa ⟨rfl, hin, hc⟩
        rw [hS1.out] at hin
        have HRA : Hid (GoRel w wa t l 0 s1) := Lib.hid ⟨HREL'.out.moved HMV.out hin hc, HBZ.out, .inr (HREL'.out.moved HMV.out hin hc).pot⟩
        clear hin hc HB
        go_wp2_with fail
        go_loopw [10] (fun i wb => ∃ r : Nat, r ≤ 80 ∧ i = .int .i64 r ∧ ∃ s, Hid (GoRel w wb t l r s)) (fun i _ => 80 - (intOf i).toNat)
        case atStart => exact ⟨0, Nat.zero_le _, rfl, s1, HRA⟩
        case round =>
          rename_i wb0
          obtain ⟨r, hr80, rfl, sr, HG⟩ := hrel
          by_cases hr : r < 80
          · obtain ⟨p, hp, hin0⟩ := HG.out.start
            have HP := Lib.hid hp
            have HIN0 := Lib.hid hin0
            have hr1 : (r : Int) < 80 := by omega
            clear hp hin0
            go_wp2_with fail
            go_loopw [11] (fun j wi => ∃ q : Nat, q ≤ n ∧ j = .int .i64 q ∧ ∃ s, Hid (InRel w wi t l p q s)) (fun j _ => n - (intOf j).toNat)
            case atStart => exact ⟨0, Nat.zero_le _, rfl, sr, HIN0⟩
            case round =>
              obtain ⟨q, hqn, rfl, sq, HI⟩ := hrel
              by_cases hq : q < n
              · have hq1 : (q : Int) < n := by omega
                have hqs : q < sq.names.length := by rw [HI.out.1.2.1, hN.out]; exact hq
                have HST := Lib.hid (step_any _ _ t sq HI.out.1.2.2.2.1 q (by have := HI.out.1.sent; omega))
                have HQS := Lib.hid hqs
                clear hqs
                go_wp2_with fail
                refine HST.out.mono ?_
                rintro e wc ⟨rfl, hin, hc⟩
                have HI2 := Lib.hid (HI.out.step HQS.out hin hc)
                clear hin hc HST
                go_wp2
                go_roundw
                case rel => exact ⟨q + 1, by omega, by go_num, _, HI2⟩
                case measure => simp [intOf]; omega
              · have hq1 : ¬ (q : Int) < n := by omega
                have HG2 : Hid (GoRel w _ t l (r + 1) sq) := Lib.hid (InRel.done (by rw [HI.out.1.2.1, hN.out, show n = q by omega]; exact HI.out) HP.out)
                go_wp2
                go_roundw
                case rel => exact ⟨r + 1, by omega, by go_num, sq, HG2⟩
                case measure => simp [intOf]; omega
          · obtain rfl : r = 80 := by omega
            have hae : AllEmpty sr := by
              rcases HG.out.2.2 with h | h
              · exact h
              · omega
            have HAE := Lib.hid hae
            have hch := chosen HG.out.1.1 hae HG.out.2.1
            obtain ⟨u, hun, hlu, hmax⟩ := hch
            have HMAX : Hid (∀ j, j < n → l.getD j 0 ≤ l.getD u 0) := Lib.hid (fun j hj => by
              rw [HG.out.1.2.1] at hmax
              exact hmax j (by rw [hN.out]; exact hj))
            have hun2 : u < n := by rw [HG.out.1.2.1, hN.out] at hun; exact hun
            have HL := Lib.hid (leader_any _ _ t sr HG.out.1.2.2.2.1)
            rw [hlu] at HL
            obtain ⟨ld, hLD⟩ : ∃ ld : Int, Hid ((u : Int) = ld) := ⟨_, Lib.hid rfl⟩
            rw [hLD.out] at HL
            have hd0 : (0 : Int) ≤ ld := by rw [← hLD.out]; omega
            have hd1 : ld < n := by rw [← hLD.out]; omega
            have HDT : Hid (ld.toNat = u) := Lib.hid (by rw [← hLD.out]; simp)
            have hg1 : decide (ld < 0) = false := by rw [decide_eq_false_iff_not]; omega
            have hg2 : decide ((n : Int) ≤ ld) = false := by rw [decide_eq_false_iff_not]; omega
            have HUN := Lib.hid hun2
            clear hae hmax hun hlu hun2
            go_wp2_with fail
            refine HL.out.mono ?_
            rintro e w' ⟨rfl, rfl⟩
            go_wp2_with fail
            clear hg1 hg2
            go_loopw [13] (fun j wi => ∃ q : Nat, q ≤ n ∧ j = .int .i64 q ∧ Hid (ElRel w wi t l sr)) (fun j _ => n - (intOf j).toNat)
            case atStart => exact ⟨0, Nat.zero_le _, rfl, Lib.hid HG.out.1⟩
            case round =>
              rename_i wi0
              obtain ⟨q, hqn, rfl, HE⟩ := hrel
              by_cases hq : q < n
              · skip
                obtain ⟨b, off, c, e1, hbS, hc⟩ := HR.out.form (by rw [hN.out]; omega)
                simp only [Value.slice.injEq] at e1
                obtain ⟨rfl, -, rfl⟩ := e1
                have hcq := HE.out.2.2.2.2.cell_some (hc q (by rw [hN.out]; omega)) (fun h => absurd hbS h)
                have hcl := HE.out.2.2.2.2.cell_some (hc u (by rw [hN.out]; exact HUN.out)) (fun h => absurd hbS h)
                have hle := HMAX.out q hq
                obtain ⟨x, hX⟩ : ∃ x, Hid (l.getD q 0 = x) := ⟨_, Lib.hid rfl⟩
                obtain ⟨y, hY⟩ : ∃ y, Hid (l.getD u 0 = y) := ⟨_, Lib.hid rfl⟩
                rw [hX.out] at hcq hle
                rw [hY.out] at hcl hle
                have hlu2 : (off : Int) + ld = ((off + u : Nat) : Int) := by rw [← hLD.out]; push_cast; rfl
                have htu : (ld.toNat) = u := HDT.out
                have hq1 : (q : Int) < n := by omega
                have hgt : decide (y < x) = false := by rw [decide_eq_false_iff_not]; omega
                have HW := Lib.hid (ways_any (fun b => b < w.heap.size) _ t sr (HE.out.2.2.2.1.keep ((Chg.refl NoF _).drew)) q (by have := HE.out.sent; omega))
                clear hc
                go_wp2_with fail
                refine wp_region_plan (Chg NoF _) 16 [(0,true),(1,true),(2,true),(3,true),(4,true),(5,true),(6,true),(7,true),(8,true),(9,true),(10,true),(11,true),(12,false),(13,true),(14,true),(15,true)] mixed (by kernel_rfl) (Chg.refl _ _).drew ?_
                simp only [planOps, List.map_cons, List.map_nil, List.getElem?_cons_zero, List.getElem?_cons_succ, Option.getD_some]
                generalize hops : List.toArray _ = ops
                iterate 9 (refine wpPlan_quiet (v := ?_) rfl (fun _ _ _ h => h) (by intro w1 hS; have s1 := hS.cell_some hcq (fun h => h); have s2 := hS.cell_some hcl (fun h => h); clear hS; go_simp; with_reducible rfl) ?_; (simp only [Act.put, List.setIfInBounds_toArray, List.set_cons_zero, List.set_cons_succ]))
                clear hcq hcl
                refine wpPlan_quiet (v := ?_) rfl (fun _ _ _ h => h) (by intro w1 hS; clear hS; go_simp; with_reducible rfl) ?_; (simp only [Act.put, List.setIfInBounds_toArray, List.set_cons_zero, List.set_cons_succ])
                iterate 2 (refine wpPlan_quietG (v := ?_) (by rw [← hops]; rfl) (fun _ _ _ h => h) (by intro w1 hS; clear hS; go_simp; with_reducible rfl) ?_; (simp only [Act.put, List.setIfInBounds_toArray, List.set_cons_zero, List.set_cons_succ]))
                refine wpPlan_loudG (by rw [← hops]; rfl) (fun K hK => ?_)
                go_simp
                refine HW.out.mono ?_
                rintro e w1 ⟨v', rfl, hrd, hcc⟩
                have htl : sr.tells (q : Int) = [] := by
                  unfold Ring.tells; split
                  · rw [Int.toNat_natCast]; exact HAE.out q (by rw [HE.out.2.1, hN.out]; exact hq)
                  · rfl
                rw [htl] at hrd
                obtain ⟨va, vc, rfl⟩ := hrd.val
                clear hrd htl
                refine hK _ _ (fun _ => ((Chg.refl NoF _).drew).trans hcc) ?_
                clear hK K HW
                (try simp only [Act.put, List.setIfInBounds_toArray, List.set_cons_zero, List.set_cons_succ])
                iterate 2 (refine wpPlan_quietG (v := ?_) (by rw [← hops]; rfl) (fun _ _ _ h => h) (by intro w1 hS; clear hS; go_simp; with_reducible rfl) ?_; (simp only [Act.put, List.setIfInBounds_toArray, List.set_cons_zero, List.set_cons_succ]))
                refine wpPlan_quiet (v := ?_) rfl (fun _ _ _ h => h) (by intro w1 hS; clear hS; go_simp; with_reducible rfl) ?_; (simp only [Act.put, List.setIfInBounds_toArray, List.set_cons_zero, List.set_cons_succ])
                clear hops
                refine wpPlan_nil ?_
                have HE2 : Hid (ElRel w w1 t l sr) := Lib.hid ⟨HE.out.1, HE.out.2.1, HE.out.2.2.1, HE.out.2.2.2.1.keep (((Chg.refl NoF _).drew).trans hcc), HE.out.2.2.2.2.trans ((((Chg.refl NoF _).drew).trans hcc).ofNo)⟩
                clear hcc
                go_wp2
                go_roundw
                case rel => exact ⟨q + 1, by omega, by go_num, HE2⟩
                case measure => simp [intOf]; omega
              · have hq1 : ¬ (q : Int) < n := by omega
                go_wp2
                go_ret
                exact ⟨rfl, HE.out.2.2.2.2⟩
      · have h3 : ¬ (k : Int) < sl := by omega
        clear hlt
        have HB := Lib.hid (begin_any _ wr t s HREL'.out.2.2.2.1 0 (by have := HREL'.out.sent; omega))
        have HMV := Lib.hid (Moves.beg HREL'.out.1 0)
        have HBZ := Lib.hid (beg_zero HREL'.out.1)
        obtain ⟨s1, hS1⟩ : ∃ s1, Hid (s.beg 0 = s1) := ⟨_, Lib.hid rfl⟩
        rw [hS1.out] at HMV HBZ
        go_wp2_with fail
        refine HB.out.mono ?_
        rintro e wa ⟨rfl, hin, hc⟩
        rw [hS1.out] at hin
        have HRA : Hid (GoRel w wa t l 0 s1) := Lib.hid ⟨HREL'.out.moved HMV.out hin hc, HBZ.out, .inr (HREL'.out.moved HMV.out hin hc).pot⟩
        clear hin hc HB
        go_wp2_with fail
        go_loopw [10] (fun i wb => ∃ r : Nat, r ≤ 80 ∧ i = .int .i64 r ∧ ∃ s, Hid (GoRel w wb t l r s)) (fun i _ => 80 - (intOf i).toNat)
        case atStart => exact ⟨0, Nat.zero_le _, rfl, s1, HRA⟩
        case round =>
          rename_i wb0
          obtain ⟨r, hr80, rfl, sr, HG⟩ := hrel
          by_cases hr : r < 80
          · obtain ⟨p, hp, hin0⟩ := HG.out.start
            have HP := Lib.hid hp
            have HIN0 := Lib.hid hin0
            have hr1 : (r : Int) < 80 := by omega
            clear hp hin0
            go_wp2_with fail
            go_loopw [11] (fun j wi => ∃ q : Nat, q ≤ n ∧ j = .int .i64 q ∧ ∃ s, Hid (InRel w wi t l p q s)) (fun j _ => n - (intOf j).toNat)
            case atStart => exact ⟨0, Nat.zero_le _, rfl, sr, HIN0⟩
            case round =>
              obtain ⟨q, hqn, rfl, sq, HI⟩ := hrel
              by_cases hq : q < n
              · have hq1 : (q : Int) < n := by omega
                have hqs : q < sq.names.length := by rw [HI.out.1.2.1, hN.out]; exact hq
                have HST := Lib.hid (step_any _ _ t sq HI.out.1.2.2.2.1 q (by have := HI.out.1.sent; omega))
                have HQS := Lib.hid hqs
                clear hqs
                go_wp2_with fail
                refine HST.out.mono ?_
                rintro e wc ⟨rfl, hin, hc⟩
                have HI2 := Lib.hid (HI.out.step HQS.out hin hc)
                clear hin hc HST
                go_wp2
                go_roundw
                case rel => exact ⟨q + 1, by omega, by go_num, _, HI2⟩
                case measure => simp [intOf]; omega
              · have hq1 : ¬ (q : Int) < n := by omega
                have HG2 : Hid (GoRel w _ t l (r + 1) sq) := Lib.hid (InRel.done (by rw [HI.out.1.2.1, hN.out, show n = q by omega]; exact HI.out) HP.out)
                go_wp2
                go_roundw
                case rel => exact ⟨r + 1, by omega, by go_num, sq, HG2⟩
                case measure => simp [intOf]; omega
          · obtain rfl : r = 80 := by omega
            have hae : AllEmpty sr := by
              rcases HG.out.2.2 with h | h
              · exact h
              · omega
            have HAE := Lib.hid hae
            have hch := chosen HG.out.1.1 hae HG.out.2.1
            obtain ⟨u, hun, hlu, hmax⟩ := hch
            have HMAX : Hid (∀ j, j < n → l.getD j 0 ≤ l.getD u 0) := Lib.hid (fun j hj => by
              rw [HG.out.1.2.1] at hmax
              exact hmax j (by rw [hN.out]; exact hj))
            have hun2 : u < n := by rw [HG.out.1.2.1, hN.out] at hun; exact hun
            have HL := Lib.hid (leader_any _ _ t sr HG.out.1.2.2.2.1)
            rw [hlu] at HL
            obtain ⟨ld, hLD⟩ : ∃ ld : Int, Hid ((u : Int) = ld) := ⟨_, Lib.hid rfl⟩
            rw [hLD.out] at HL
            have hd0 : (0 : Int) ≤ ld := by rw [← hLD.out]; omega
            have hd1 : ld < n := by rw [← hLD.out]; omega
            have HDT : Hid (ld.toNat = u) := Lib.hid (by rw [← hLD.out]; simp)
            have hg1 : decide (ld < 0) = false := by rw [decide_eq_false_iff_not]; omega
            have hg2 : decide ((n : Int) ≤ ld) = false := by rw [decide_eq_false_iff_not]; omega
            have HUN := Lib.hid hun2
            clear hae hmax hun hlu hun2
            go_wp2_with fail
            refine HL.out.mono ?_
            rintro e w' ⟨rfl, rfl⟩
            go_wp2_with fail
            clear hg1 hg2
            go_loopw [13] (fun j wi => ∃ q : Nat, q ≤ n ∧ j = .int .i64 q ∧ Hid (ElRel w wi t l sr)) (fun j _ => n - (intOf j).toNat)
            case atStart => exact ⟨0, Nat.zero_le _, rfl, Lib.hid HG.out.1⟩
            case round =>
              rename_i wi0
              obtain ⟨q, hqn, rfl, HE⟩ := hrel
              by_cases hq : q < n
              · skip
                obtain ⟨b, off, c, e1, hbS, hc⟩ := HR.out.form (by rw [hN.out]; omega)
                simp only [Value.slice.injEq] at e1
                obtain ⟨rfl, -, rfl⟩ := e1
                have hcq := HE.out.2.2.2.2.cell_some (hc q (by rw [hN.out]; omega)) (fun h => absurd hbS h)
                have hcl := HE.out.2.2.2.2.cell_some (hc u (by rw [hN.out]; exact HUN.out)) (fun h => absurd hbS h)
                have hle := HMAX.out q hq
                obtain ⟨x, hX⟩ : ∃ x, Hid (l.getD q 0 = x) := ⟨_, Lib.hid rfl⟩
                obtain ⟨y, hY⟩ : ∃ y, Hid (l.getD u 0 = y) := ⟨_, Lib.hid rfl⟩
                rw [hX.out] at hcq hle
                rw [hY.out] at hcl hle
                have hlu2 : (off : Int) + ld = ((off + u : Nat) : Int) := by rw [← hLD.out]; push_cast; rfl
                have htu : (ld.toNat) = u := HDT.out
                have hq1 : (q : Int) < n := by omega
                have hgt : decide (y < x) = false := by rw [decide_eq_false_iff_not]; omega
                have HW := Lib.hid (ways_any (fun b => b < w.heap.size) _ t sr (HE.out.2.2.2.1.keep ((Chg.refl NoF _).drew)) q (by have := HE.out.sent; omega))
                clear hc
                go_wp2_with fail
                refine wp_region_plan (Chg NoF _) 16 [(0,true),(1,true),(2,true),(3,true),(4,true),(5,true),(6,true),(7,true),(8,true),(9,true),(10,true),(11,true),(12,false),(13,true),(14,true),(15,true)] mixed (by kernel_rfl) (Chg.refl _ _).drew ?_
                simp only [planOps, List.map_cons, List.map_nil, List.getElem?_cons_zero, List.getElem?_cons_succ, Option.getD_some]
                generalize hops : List.toArray _ = ops
                iterate 9 (refine wpPlan_quiet (v := ?_) rfl (fun _ _ _ h => h) (by intro w1 hS; have s1 := hS.cell_some hcq (fun h => h); have s2 := hS.cell_some hcl (fun h => h); clear hS; go_simp; with_reducible rfl) ?_; (simp only [Act.put, List.setIfInBounds_toArray, List.set_cons_zero, List.set_cons_succ]))
                clear hcq hcl
                refine wpPlan_quiet (v := ?_) rfl (fun _ _ _ h => h) (by intro w1 hS; clear hS; go_simp; with_reducible rfl) ?_; (simp only [Act.put, List.setIfInBounds_toArray, List.set_cons_zero, List.set_cons_succ])
                iterate 2 (refine wpPlan_quietG (v := ?_) (by rw [← hops]; rfl) (fun _ _ _ h => h) (by intro w1 hS; clear hS; go_simp; with_reducible rfl) ?_; (simp only [Act.put, List.setIfInBounds_toArray, List.set_cons_zero, List.set_cons_succ]))
                refine wpPlan_loudG (by rw [← hops]; rfl) (fun K hK => ?_)
                go_simp
                refine HW.out.mono ?_
                rintro e w1 ⟨v', rfl, hrd, hcc⟩
                have htl : sr.tells (q : Int) = [] := by
                  unfold Ring.tells; split
                  · rw [Int.toNat_natCast]; exact HAE.out q (by rw [HE.out.2.1, hN.out]; exact hq)
                  · rfl
                rw [htl] at hrd
                obtain ⟨va, vc, rfl⟩ := hrd.val
                clear hrd htl
                refine hK _ _ (fun _ => ((Chg.refl NoF _).drew).trans hcc) ?_
                clear hK K HW
                (try simp only [Act.put, List.setIfInBounds_toArray, List.set_cons_zero, List.set_cons_succ])
                iterate 2 (refine wpPlan_quietG (v := ?_) (by rw [← hops]; rfl) (fun _ _ _ h => h) (by intro w1 hS; clear hS; go_simp; with_reducible rfl) ?_; (simp only [Act.put, List.setIfInBounds_toArray, List.set_cons_zero, List.set_cons_succ]))
                refine wpPlan_quiet (v := ?_) rfl (fun _ _ _ h => h) (by intro w1 hS; clear hS; go_simp; with_reducible rfl) ?_; (simp only [Act.put, List.setIfInBounds_toArray, List.set_cons_zero, List.set_cons_succ])
                clear hops
                refine wpPlan_nil ?_
                have HE2 : Hid (ElRel w w1 t l sr) := Lib.hid ⟨HE.out.1, HE.out.2.1, HE.out.2.2.1, HE.out.2.2.2.1.keep (((Chg.refl NoF _).drew).trans hcc), HE.out.2.2.2.2.trans ((((Chg.refl NoF _).drew).trans hcc).ofNo)⟩
                clear hcc
                go_wp2
                go_roundw
                case rel => exact ⟨q + 1, by omega, by go_num, HE2⟩
                case measure => simp [intOf]; omega
              · have hq1 : ¬ (q : Int) < n := by omega
                go_wp2
                go_ret
                exact ⟨rfl, HE.out.2.2.2.2⟩

end Go.Proofs.Ytgpjjbfmckcjgaa
