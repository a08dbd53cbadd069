/-
  The walk of ElectOne: by whatever steps whoever is the leader has the greatest name; no more names are sent than n (n + 1) / 2, and n.
  Conditions: the names and the steps are read as lists of integers that fit an int.
-/
import Derived.Test.YtgpjjbfmckcjgaaElMath2
namespace Go.Proofs.Ytgpjjbfmckcjgaa
open Go Go.RowKit

theorem RingIn.mono {S S' : Nat → Prop} {w : World} {t : Nat} {s : Ring} (h : RingIn S w t s) (hS : ∀ b, S' b → S b) : RingIn S' w t s := by
  obtain ⟨h1, h2, N, B, W, M, tag, h⟩ := h
  exact ⟨fun b hb => h1 b (hS b hb), h2, N, B, W, M, tag, ⟨fun b hb => h.hS b (hS b hb), h.ht, h.blk, h.names, h.begun, h.ways, h.msgs, h.lens⟩⟩

set_option maxHeartbeats 2000000 in
theorem electFact_any (w : World) : Calls Try.prog 8 #[] w fun e w' => e = .returned (.bool true) ∧ Chg NoF w w' := by
  go_enter Try.func8, Try.ntmps8
  go_wp2_with fail
  refine (new_any (fun k => k = w.heap.size) _ [4] _ (Rd.built w 3 [4] 1 _ rfl) (by decide)).mono ?_
  rintro e w1 ⟨hc1, h⟩
  rcases h with ⟨h, _⟩ | ⟨_, t, rfl, hin⟩
  · exact absurd (by decide) h
  have hc0 : Chg (NewB w) w w1 := (((Chg.refl NoF w).alloc _).trans hc1).ofNo
  have hin1 : RingIn (fun b => b < w.heap.size) w1 t (Ring.init [4]) := hin.mono (fun b hb => Nat.lt_of_lt_of_le hb ((Chg.refl NoF w).alloc (.cells #[.int .i64 4] 3)).size)
  have HC0 := Lib.hid hc0
  have HB := Lib.hid (begin_any _ w1 t (Ring.init [4]) hin1 0 (by decide))
  clear hc1 hin hc0 hin1
  go_wp2_with fail
  refine HB.out.mono ?_
  rintro e w2 ⟨rfl, hin2, hc2⟩
  have e1 : (Ring.init [4]).bgErr 0 = 0 := by decide
  rw [e1, show errV 0 = .nilIface from rfl]
  have HS := Lib.hid (step_any _ w2 t _ hin2 0 (by decide))
  have HC2 := Lib.hid (HC0.out.trans hc2)
  clear e1 hin2 hc2
  go_wp2_with fail
  refine HS.out.mono ?_
  rintro e w3 ⟨rfl, hin3, hc3⟩
  have e1 : ((Ring.init [4]).beg 0).stErr 0 = 0 := by decide
  rw [e1, show errV 0 = .nilIface from rfl]
  have HL := Lib.hid (leader_any _ w3 t _ hin3)
  rw [show (((Ring.init [4]).beg 0).step 0).leader = 0 by decide] at HL
  have HC3 := Lib.hid (HC2.out.trans hc3)
  clear e1 hin3 hc3
  go_wp2_with fail
  refine HL.out.mono ?_
  rintro e w4 ⟨rfl, rfl⟩
  go_wp2
  go_ret
  exact ⟨rfl, HC3.out.os, HC3.out.tape, HC3.out.output, HC3.out.size, fun k hk _ => HC3.out.block k hk (fun hn => hn hk)⟩

/-- What a script's number does. -/
def Ring.act (s : Ring) (x : Int) : Ring := if 0 ≤ x then s.beg x else s.step (-1 - x)

theorem Moves.act {s : Ring} (h : EInv s) (x : Int) : Moves s (s.act x) := by
  unfold Ring.act; split
  · exact Moves.beg h x
  · exact (Moves.step h _).1

/-- What the law's loop knows. -/
def ElRel (w wr : World) (t : Nat) (l : List Int) (s : Ring) : Prop :=
  EInv s ∧ s.names = l ∧ 2 * (s.sent + pot s) ≤ l.length * (l.length + 1) + 2 * l.length ∧ RingIn (fun b => b < w.heap.size) wr t s ∧ Chg (NewB w) w wr

theorem ElRel.sent {w wr : World} {t : Nat} {l : List Int} {s : Ring} (h : ElRel w wr t l s) : s.sent ≤ 20 := by
  obtain ⟨h1, h2, h3, _, _⟩ := h
  have h5 : l.length ≤ 5 := by rw [← h2]; exact h1.l4
  have : l.length * (l.length + 1) ≤ 5 * 6 := Nat.mul_le_mul h5 (by omega)
  omega

theorem ElRel.start {w w1 w2 : World} {t : Nat} {l : List Int} (he : elErr l = 0) (hc1 : Chg NoF w w1) (hc2 : Chg NoF w1 w2) (hin : RingIn (fun b => b < w1.heap.size) w2 t (Ring.init l)) : ElRel w w2 t l (Ring.init l) := by
  have := EInv.init he
  refine ⟨this.1, rfl, ?_, hin.mono (fun b hb => Nat.lt_of_lt_of_le hb hc1.size), (hc1.trans hc2).ofNo⟩
  show 2 * (0 + pot (Ring.init l)) ≤ _
  have := this.2; omega

theorem ElRel.act {w wr wr' : World} {t : Nat} {l : List Int} {s : Ring} (h : ElRel w wr t l s) (x : Int) (hin : RingIn (fun b => b < w.heap.size) wr' t (s.act x)) (hc : Chg (NewB w) wr wr') : ElRel w wr' t l (s.act x) := by
  obtain ⟨h1, h2, h3, _, h5⟩ := h
  have hm := Moves.act h1 x
  exact ⟨hm.inv, hm.nm.trans h2, by have := hm.tot; omega, hin, h5.trans hc⟩

set_option maxHeartbeats 8000000 in
set_option maxRecDepth 100000 in
theorem one_walk (v sv : Value) (l sc : List Int) (w : World) (hr : Rd (fun k => k < w.heap.size) w v l) (hs : Rd (fun k => k < w.heap.size) w sv sc) (hlb : l.length ≤ 9223372036854775807) (hsb : sc.length ≤ 9223372036854775807)
    (hwf : ∀ j, j < sc.length → -9223372036854775808 ≤ sc.getD j 0 ∧ sc.getD j 0 ≤ 9223372036854775807) :
    Calls Try.prog 3 #[v, sv] w fun e w' => e = .returned (.bool true) ∧ Chg (NewB w) w w' := by
  have HR := Lib.hid hr
  have HS := Lib.hid hs
  have HWF := Lib.hid hwf
  have HNEW := Lib.hid (fun w1 (h1 : Rd (fun k => k < w.heap.size) w1 v l) => new_any _ v l w1 h1 hlb)
  clear hr hs hwf
  go_enter Try.func3, Try.ntmps3
  go_wp2_with fail
  refine (electFact_any w).mono ?_
  rintro e w1 ⟨rfl, hc1⟩
  go_wp2_with fail
  refine (HNEW.out w1 (HR.out.keep hc1 fun _ _ h => h)).mono ?_
  rintro e w2 ⟨hc2, hnew⟩
  have HC1 := Lib.hid hc1
  have HC2 := Lib.hid hc2
  clear HNEW hc1 hc2
  rcases hnew with ⟨hne, rfl⟩ | ⟨hok, t, rfl, hin⟩
  · obtain ⟨ec, hEC⟩ : ∃ ec, Hid (elErr l = ec) := ⟨_, Lib.hid rfl⟩
    rw [hEC.out] at hne ⊢
    rw [show errV ec = .iface 41 (.int .i64 ec) by unfold errV; rw [if_neg hne]]
    clear hne
    go_wp2
    go_ret
    exact ⟨rfl, (HC1.out.trans HC2.out).ofNo⟩
  have HREL := Lib.hid (ElRel.start hok HC1.out HC2.out hin)
  obtain ⟨hl0, hl5, _, _⟩ := elErr_ok hok
  clear hok hin
  obtain ⟨pv, cv, rfl⟩ := HR.out.val
  obtain ⟨ps, cs, rfl⟩ := HS.out.val
  obtain ⟨n, hN⟩ : ∃ n, Hid (l.length = n) := ⟨_, Lib.hid rfl⟩
  obtain ⟨sl, hSL⟩ : ∃ sl, Hid (sc.length = sl) := ⟨_, Lib.hid rfl⟩
  rw [hN.out] at hl0 hl5 HR
  rw [hSL.out] at hsb HS HWF
  rw [hN.out, hSL.out]
  clear hlb
  have hn30 : n * (n + 1) ≤ 5 * 6 := Nat.mul_le_mul hl5 (by omega)
  obtain ⟨m, hm, hM⟩ : ∃ m : Nat, m ≤ 30 ∧ Hid (n * (n + 1) = m) := ⟨_, hn30, Lib.hid rfl⟩
  clear hn30
  have hmul : (n : Int) * ((n : Int) + 1) = m := by rw [← hM.out]; push_cast; rfl
  obtain ⟨m2, hM2⟩ : ∃ m2, Hid (m / 2 = m2) := ⟨_, Lib.hid rfl⟩
  have HM2 : Hid (2 * m2 ≤ m ∧ m ≤ 2 * m2 + 1 ∧ m2 ≤ 15) := Lib.hid (by have := hM2.out; omega)
  have HW : Hid (wrap64 ((n : Int) * ((n : Int) + 1)) = m ∧ wrap64 ((m : Int) / 2) = m2 ∧ wrap64 ((m2 : Int) + (n : Int)) = m2 + n) := Lib.hid (by
    have h1 := HM2.out
    refine ⟨by rw [hmul]; exact IntWalk.wrap64_in _ (by omega), ?_, IntWalk.wrap64_in _ (by omega)⟩
    rw [show (m : Int) / 2 = m2 by rw [← hM2.out]; push_cast; rfl]
    exact IntWalk.wrap64_in _ (by omega))
  clear hmul
  go_wp2_with fail
  go_loopw [9] (fun i wr => ∃ k : Nat, k ≤ sl ∧ k ≤ 150 ∧ i = .int .i64 k ∧ ∃ s, Hid (ElRel w wr t l s)) (fun i _ => 150 - (intOf i).toNat)
  case atStart => exact ⟨0, Nat.zero_le _, Nat.zero_le _, rfl, _, HREL⟩
  case round =>
    obtain ⟨k, hksl, hk150, rfl, s, HREL'⟩ := hrel
    by_cases hlt : k < sl ∧ k < 150
    · obtain ⟨hlt1, hlt2⟩ := hlt
      obtain ⟨b, off, c, e1, hbS, hc⟩ := HS.out.form (by rw [hSL.out]; omega)
      simp only [Value.slice.injEq] at e1
      obtain ⟨rfl, -, rfl⟩ := e1
      have hcell := HREL'.out.2.2.2.2.cell_some (hc k (by rw [hSL.out]; omega)) (fun h => absurd hbS h)
      have hb := HWF.out k hlt1
      obtain ⟨x, hX⟩ : ∃ x, Hid (sc.getD k 0 = x) := ⟨_, Lib.hid rfl⟩
      rw [hX.out] at hcell hb
      obtain ⟨hb1, hb2⟩ := hb
      have hk0 : (0 : Int) ≤ k := by omega
      have hk1 : (k : Int) < sl := by omega
      have hk2 : (k : Int) < 150 := by omega
      have hsent : (s.sent : Int) < 1000000 := by have := HREL'.out.sent; omega
      clear hc
      obtain ⟨s2, hS2⟩ : ∃ s2, Hid (s.act x = s2) := ⟨_, Lib.hid rfl⟩
      -- what stands behind the deed
      have after : ∀ (e : Ending) (wa : World), RingIn (fun b => b < w.heap.size) wa t s2 → Chg (NewB w) wr wa → ElRel w wa t l s2 := fun e wa h1 h2 => by
        rw [← hS2.out] at h1 ⊢; exact HREL'.out.act x h1 h2
      have AFTER := Lib.hid after
      clear after
      by_cases hx0 : 0 ≤ x
      · have HB := Lib.hid (begin_any _ wr t s HREL'.out.2.2.2.1 x hsent)
        have hact : s.beg x = s2 := by rw [← hS2.out]; unfold Ring.act; rw [if_pos hx0]
        have HACT := Lib.hid hact
        clear hact
        go_wp2_with fail
        refine HB.out.mono ?_
        rintro e wa ⟨rfl, hin, hc⟩
        have HRA := Lib.hid (AFTER.out .outgrown wa (HACT.out ▸ hin) hc)
        clear hin hc HB AFTER
        have HKK : Hid (k < sl ∧ k < 150 ∧ 0 < n) := Lib.hid ⟨hlt1, hlt2, hl0⟩
        clear hb1 hb2 hcell hx0 hk0 hk1 hk2 hl0 hm hsent hlt1 hlt2 hksl hk150 hsb
        obtain ⟨hw1, hw2, hw3⟩ := HW.out
        have HLD := Lib.hid (leader_any _ wa t s2 HRA.out.2.2.2.1)
        have HSN := Lib.hid (sent_any _ wa t s2 HRA.out.2.2.2.1)
        have hsn : 2 * s2.sent ≤ m + 2 * n := by
          have h1 := HRA.out.2.2.1
          rw [hN.out, hM.out] at h1; omega
        have hgt : decide ((m2 : Int) + (n : Int) < (s2.sent : Int)) = false := by rw [decide_eq_false_iff_not]; have := HM2.out; omega
        obtain ⟨sn, hSN⟩ : ∃ sn, Hid (s2.sent = sn) := ⟨_, Lib.hid rfl⟩
        rw [hSN.out] at hsn hgt HSN
        clear hsn
        rcases HRA.out.1.lead with hld | ⟨q, hq, hld, hmax⟩
        · rw [hld] at HLD
          clear hld
          have hge : decide ((n : Int) ≤ -1) = false := by rw [decide_eq_false_iff_not]; omega
          go_wp2_with fail
          refine HLD.out.mono ?_
          rintro e w' ⟨rfl, rfl⟩
          go_wp2_with fail
          refine HSN.out.mono ?_
          rintro e w' ⟨rfl, rfl⟩
          go_wp2_with fail
          go_loop [11] (fun j => j = .int .i64 0) (fun _ => 0)
          case atStart => rfl
          case round =>
            subst hrel
            obtain ⟨hlt1, hlt2, hl0⟩ := HKK.out
            go_wp2
            go_roundw
            case rel => exact ⟨k + 1, by have := HKK.out; omega, by have := HKK.out; omega, by go_num, s2, HRA⟩
            case measure => have := HKK.out; simp [intOf]; omega
        · have hqn : q < n := by rw [HRA.out.2.1, hN.out] at hq; exact hq
          have HMAX : Hid (∀ j, j < n → l.getD j 0 ≤ l.getD q 0) := Lib.hid (fun j hj => by
            have h1 := HRA.out.2.1
            rw [h1] at hmax
            exact hmax j (by rw [hN.out]; exact hj))
          rw [hld] at HLD
          clear hld hmax hq
          have hq0 : (0 : Int) ≤ q := by omega
          have hq1 : (q : Int) < n := by omega
          have hge : decide ((n : Int) ≤ (q : Int)) = false := by rw [decide_eq_false_iff_not]; omega
          have hge2 : decide ((q : Int) < -1) = false := by rw [decide_eq_false_iff_not]; omega
          obtain ⟨ld, hLD⟩ : ∃ ld : Int, Hid ((q : Int) = ld) := ⟨_, Lib.hid rfl⟩
          rw [hLD.out] at HLD hge hge2 hq0 hq1
          have HQ : Hid (0 ≤ ld ∧ ld < n ∧ ld.toNat = q ∧ q < n) := Lib.hid ⟨hq0, hq1, by rw [← hLD.out]; simp, hqn⟩
          clear hq0 hq1 hqn
          go_wp2_with fail
          refine HLD.out.mono ?_
          rintro e w' ⟨rfl, rfl⟩
          go_wp2_with fail
          refine HSN.out.mono ?_
          rintro e w' ⟨rfl, rfl⟩
          go_wp2_with fail
          obtain ⟨hq0, hq1, hqt, hqn⟩ := HQ.out
          have HQT := Lib.hid hqt
          clear hqt hge hge2 hgt hw1 hw2 hw3
          go_loopw [11] (fun j wi => ∃ p : Nat, p ≤ n ∧ j = .int .i64 p ∧ ∃ z, wi = wa.drewN z) (fun j _ => n - (intOf j).toNat)
          case atStart => exact ⟨0, Nat.zero_le _, rfl, 0, rfl⟩
          case round =>
            obtain ⟨p, hpn, rfl, z, rfl⟩ := hrel
            by_cases hp : p < n
            · obtain ⟨b, off, c, e1, hbS, hc⟩ := HR.out.form (by rw [hN.out]; omega)
              simp only [Value.slice.injEq] at e1
              obtain ⟨rfl, -, rfl⟩ := e1
              have hcp := HRA.out.2.2.2.2.cell_some (hc p (by rw [hN.out]; omega)) (fun h => absurd hbS h)
              have hcq := HRA.out.2.2.2.2.cell_some (hc q (by rw [hN.out]; omega)) (fun h => absurd hbS h)
              rw [← HQT.out] at hcq
              have hle := HMAX.out p hp
              obtain ⟨y, hY⟩ : ∃ y, Hid (l.getD p 0 = y) := ⟨_, Lib.hid rfl⟩
              obtain ⟨y2, hY2⟩ : ∃ y, Hid (l.getD q 0 = y) := ⟨_, Lib.hid rfl⟩
              rw [hY.out] at hcp hle
              rw [HQT.out, hY2.out, ← HQT.out] at hcq
              rw [hY2.out] at hle
              have hp0 : (0 : Int) ≤ p := by omega
              have hp1 : (p : Int) < n := by omega
              have hdec : decide (y2 < y) = false := by rw [decide_eq_false_iff_not]; omega
              clear hc
              go_wp2
              go_quiet (fail)
              go_wp2
              go_roundw
              case rel => first | exact ⟨p + 1, by omega, by go_num, _, rfl⟩ | exact ⟨p + 1, by omega, by go_num, _, drewN_drewN _ _ _⟩
              case measure => simp [intOf]; omega
            · have hp1 : ¬ (p : Int) < n := by omega
              obtain ⟨hlt1, hlt2, hl0⟩ := HKK.out
              go_wp2
              go_roundw
              case rel => exact ⟨k + 1, by have := HKK.out; omega, by have := HKK.out; omega, by go_num, s2, Lib.hid ⟨HRA.out.1, HRA.out.2.1, HRA.out.2.2.1, HRA.out.2.2.2.1.keep ((Chg.refl _ _).drewN _), HRA.out.2.2.2.2.drewN _⟩⟩
              case measure => have := HKK.out; simp [intOf]; omega
      · have HB := Lib.hid (step_any _ wr t s HREL'.out.2.2.2.1 (-1 - x) hsent)
        have hact : s.step (-1 - x) = s2 := by rw [← hS2.out]; unfold Ring.act; rw [if_neg hx0]
        have HACT := Lib.hid hact
        have hx1 : x < 0 := by omega
        clear hact
        go_wp2_with fail
        refine HB.out.mono ?_
        rintro e wa ⟨rfl, hin, hc⟩
        have HRA := Lib.hid (AFTER.out .outgrown wa (HACT.out ▸ hin) hc)
        clear hin hc HB AFTER
        have HKK : Hid (k < sl ∧ k < 150 ∧ 0 < n) := Lib.hid ⟨hlt1, hlt2, hl0⟩
        clear hb1 hb2 hcell hx0 hx1 hk0 hk1 hk2 hl0 hm hsent hlt1 hlt2 hksl hk150 hsb
        obtain ⟨hw1, hw2, hw3⟩ := HW.out
        have HLD := Lib.hid (leader_any _ wa t s2 HRA.out.2.2.2.1)
        have HSN := Lib.hid (sent_any _ wa t s2 HRA.out.2.2.2.1)
        have hsn : 2 * s2.sent ≤ m + 2 * n := by
          have h1 := HRA.out.2.2.1
          rw [hN.out, hM.out] at h1; omega
        have hgt : decide ((m2 : Int) + (n : Int) < (s2.sent : Int)) = false := by rw [decide_eq_false_iff_not]; have := HM2.out; omega
        obtain ⟨sn, hSN⟩ : ∃ sn, Hid (s2.sent = sn) := ⟨_, Lib.hid rfl⟩
        rw [hSN.out] at hsn hgt HSN
        clear hsn
        rcases HRA.out.1.lead with hld | ⟨q, hq, hld, hmax⟩
        · rw [hld] at HLD
          clear hld
          have hge : decide ((n : Int) ≤ -1) = false := by rw [decide_eq_false_iff_not]; omega
          go_wp2_with fail
          refine HLD.out.mono ?_
          rintro e w' ⟨rfl, rfl⟩
          go_wp2_with fail
          refine HSN.out.mono ?_
          rintro e w' ⟨rfl, rfl⟩
          go_wp2_with fail
          go_loop [11] (fun j => j = .int .i64 0) (fun _ => 0)
          case atStart => rfl
          case round =>
            subst hrel
            obtain ⟨hlt1, hlt2, hl0⟩ := HKK.out
            go_wp2
            go_roundw
            case rel => exact ⟨k + 1, by have := HKK.out; omega, by have := HKK.out; omega, by go_num, s2, HRA⟩
            case measure => have := HKK.out; simp [intOf]; omega
        · have hqn : q < n := by rw [HRA.out.2.1, hN.out] at hq; exact hq
          have HMAX : Hid (∀ j, j < n → l.getD j 0 ≤ l.getD q 0) := Lib.hid (fun j hj => by
            have h1 := HRA.out.2.1
            rw [h1] at hmax
            exact hmax j (by rw [hN.out]; exact hj))
          rw [hld] at HLD
          clear hld hmax hq
          have hq0 : (0 : Int) ≤ q := by omega
          have hq1 : (q : Int) < n := by omega
          have hge : decide ((n : Int) ≤ (q : Int)) = false := by rw [decide_eq_false_iff_not]; omega
          have hge2 : decide ((q : Int) < -1) = false := by rw [decide_eq_false_iff_not]; omega
          obtain ⟨ld, hLD⟩ : ∃ ld : Int, Hid ((q : Int) = ld) := ⟨_, Lib.hid rfl⟩
          rw [hLD.out] at HLD hge hge2 hq0 hq1
          have HQ : Hid (0 ≤ ld ∧ ld < n ∧ ld.toNat = q ∧ q < n) := Lib.hid ⟨hq0, hq1, by rw [← hLD.out]; simp, hqn⟩
          clear hq0 hq1 hqn
          go_wp2_with fail
          refine HLD.out.mono ?_
          rintro e w' ⟨rfl, rfl⟩
          go_wp2_with fail
          refine HSN.out.mono ?_
          rintro e w' ⟨rfl, rfl⟩
          go_wp2_with fail
          obtain ⟨hq0, hq1, hqt, hqn⟩ := HQ.out
          have HQT := Lib.hid hqt
          clear hqt hge hge2 hgt hw1 hw2 hw3
          go_loopw [11] (fun j wi => ∃ p : Nat, p ≤ n ∧ j = .int .i64 p ∧ ∃ z, wi = wa.drewN z) (fun j _ => n - (intOf j).toNat)
          case atStart => exact ⟨0, Nat.zero_le _, rfl, 0, rfl⟩
          case round =>
            obtain ⟨p, hpn, rfl, z, rfl⟩ := hrel
            by_cases hp : p < n
            · obtain ⟨b, off, c, e1, hbS, hc⟩ := HR.out.form (by rw [hN.out]; omega)
              simp only [Value.slice.injEq] at e1
              obtain ⟨rfl, -, rfl⟩ := e1
              have hcp := HRA.out.2.2.2.2.cell_some (hc p (by rw [hN.out]; omega)) (fun h => absurd hbS h)
              have hcq := HRA.out.2.2.2.2.cell_some (hc q (by rw [hN.out]; omega)) (fun h => absurd hbS h)
              rw [← HQT.out] at hcq
              have hle := HMAX.out p hp
              obtain ⟨y, hY⟩ : ∃ y, Hid (l.getD p 0 = y) := ⟨_, Lib.hid rfl⟩
              obtain ⟨y2, hY2⟩ : ∃ y, Hid (l.getD q 0 = y) := ⟨_, Lib.hid rfl⟩
              rw [hY.out] at hcp hle
              rw [HQT.out, hY2.out, ← HQT.out] at hcq
              rw [hY2.out] at hle
              have hp0 : (0 : Int) ≤ p := by omega
              have hp1 : (p : Int) < n := by omega
              have hdec : decide (y2 < y) = false := by rw [decide_eq_false_iff_not]; omega
              clear hc
              go_wp2
              go_quiet (fail)
              go_wp2
              go_roundw
              case rel => first | exact ⟨p + 1, by omega, by go_num, _, rfl⟩ | exact ⟨p + 1, by omega, by go_num, _, drewN_drewN _ _ _⟩
              case measure => simp [intOf]; omega
            · have hp1 : ¬ (p : Int) < n := by omega
              obtain ⟨hlt1, hlt2, hl0⟩ := HKK.out
              go_wp2
              go_roundw
              case rel => exact ⟨k + 1, by have := HKK.out; omega, by have := HKK.out; omega, by go_num, s2, Lib.hid ⟨HRA.out.1, HRA.out.2.1, HRA.out.2.2.1, HRA.out.2.2.2.1.keep ((Chg.refl _ _).drewN _), HRA.out.2.2.2.2.drewN _⟩⟩
              case measure => have := HKK.out; simp [intOf]; omega
    · by_cases h1 : k < sl
      · have h2 : ¬ (k : Int) < 150 := by omega
        have h3 : (k : Int) < sl := by omega
        clear hlt
        go_wp2
        go_ret
        exact ⟨rfl, HREL'.out.2.2.2.2⟩
      · have h3 : ¬ (k : Int) < sl := by omega
        clear hlt
        go_wp2
        go_ret
        exact ⟨rfl, HREL'.out.2.2.2.2⟩

end Go.Proofs.Ytgpjjbfmckcjgaa
