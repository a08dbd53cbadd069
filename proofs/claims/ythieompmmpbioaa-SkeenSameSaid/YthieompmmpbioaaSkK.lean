/-
  The walk of SkeenSame: of two nodes what the one has begins what the other one has, or the other way round; each once, by rising times.
  Conditions: the steps are read as lists of integers.
-/
import Derived.Test.YthieompmmpbioaaSkH
namespace Go.Proofs.Ythieompmmpbioaa
open Go Go.RowKit

theorem getD_at (l : List Int) {i : Nat} (h : i < l.length) : l.getD i 0 = l[i] := by
  rw [List.getD_eq_getElem?_getD, List.getElem?_eq_getElem h, Option.getD_some]

theorem SPre.risesD {s : SNet} (h : SPre s) {p y : Nat} (hp : p < s.n) (hy : y + 1 < (s.got p).length) : s.fixedAt p ((s.got p).getD y 0) = true ∧ s.fixedAt p ((s.got p).getD (y + 1) 0) = true ∧
    ¬ s.timeOf p ((s.got p).getD (y + 1) 0) < s.timeOf p ((s.got p).getD y 0) ∧ (s.timeOf p ((s.got p).getD y 0) = s.timeOf p ((s.got p).getD (y + 1) 0) → ¬ (s.got p).getD (y + 1) 0 ≤ (s.got p).getD y 0) := by
  have h1 := h.rises (k := y + 1) hp (by omega) hy
  rw [getD_at _ hy, getD_at _ (show y < (s.got p).length by omega)]
  exact ⟨h1.1, h1.2.1, h1.2.2.1, fun e hh => h1.2.2.2 ⟨e, hh⟩⟩

theorem SPre.sameD {s : SNet} (h : SPre s) {p q d : Nat} (hp : p < s.n) (hq : q < s.n) (h1 : d < (s.got p).length) (h2 : d < (s.got q).length) : (s.got p).getD d 0 = (s.got q).getD d 0 := by
  rw [getD_at _ h1, getD_at _ h2]; exact h.same hp hq d h1 h2

set_option maxHeartbeats 8000000 in
set_option maxRecDepth 100000 in
theorem same_walk (n : Int) (v : Value) (ll : List (List Int)) (w : World) (hr : Rd2 (fun k => k < w.heap.size) w v ll) (hlb : ll.length ≤ 9223372036854775807) :
    Calls Try.prog 3 #[.int .i64 n, v] w fun e w' => e = .returned (.bool true) ∧ Chg (NewB w) w w' := by
  have HR := Lib.hid hr
  clear hr
  go_enter Try.func3, Try.ntmps3
  go_wp2_with fail
  refine (skeenFact_any w).mono ?_
  rintro e w1 ⟨rfl, hc1⟩
  go_wp2_with fail
  refine (new_any n w1).mono ?_
  rintro e w2 ⟨hc2, hnew⟩
  have HC1 := Lib.hid hc1
  have HC2 := Lib.hid hc2
  clear hc1 hc2
  rcases hnew with ⟨hbad, rfl⟩ | ⟨k, rfl, hk1, hk4, t, g, rfl, hin⟩
  · have hb : decide (n < 1) = true ∨ (decide (n < 1) = false ∧ decide (4 < n) = true) := by
      rcases Bool.and_eq_false_iff.1 hbad with h | h
      · left; rw [decide_eq_true_eq]; have := of_decide_eq_false h; omega
      · by_cases h1 : n < 1
        · left; rw [decide_eq_true_eq]; exact h1
        · right; rw [decide_eq_true_eq, decide_eq_false_iff_not]; have := of_decide_eq_false h; omega
    rw [show errV 1 = .iface 57 (.int .i64 1) from rfl]
    clear hbad
    rcases hb with hb | ⟨hb1, hb2⟩
    · go_wp2
      go_ret
      exact ⟨rfl, (HC1.out.trans HC2.out).ofNo⟩
    · go_wp2
      go_ret
      exact ⟨rfl, (HC1.out.trans HC2.out).ofNo⟩
  have HREL : Hid (SRel w w2 t g k (SNet.init k)) := Lib.hid (SRel.start hk1 hk4 HC1.out HC2.out hin)
  clear hin
  obtain ⟨pv, cv, rfl⟩ := HR.out.val
  obtain ⟨sl, hSL⟩ : ∃ sl, Hid (ll.length = sl) := ⟨_, Lib.hid rfl⟩
  rw [hSL.out] at hlb HR ⊢
  go_wp2_with fail
  go_loopw [8] (fun i wr => ∃ j : Nat, j ≤ sl ∧ j ≤ 150 ∧ i = .int .i64 j ∧ ∃ s, Hid (SRel w wr t g k s)) (fun i _ => 150 - (intOf i).toNat)
  case atStart => exact ⟨0, Nat.zero_le _, Nat.zero_le _, rfl, _, HREL⟩
  case round =>
    clear HREL
    obtain ⟨j, hjsl, hj150, rfl, s, HT⟩ := hrel
    by_cases hlt : j < sl ∧ j < 150
    · obtain ⟨hlt1, hlt2⟩ := hlt
      obtain ⟨b, off, c, u, e1, hcell, hrow, hrl⟩ := HR.out.at HT.out.2.2.2 (fun b hb hn => hn hb) (j := j) (by rw [hSL.out]; exact hlt1)
      simp only [Value.slice.injEq] at e1
      obtain ⟨rfl, -, rfl⟩ := e1
      have hj1 : (j : Int) < sl := by omega
      have hj2 : (j : Int) < 150 := by omega
      have HG := Lib.hid (does_any _ _ t g s HT.out.2.2.1 HT.out.1 (fun b hb => Nat.lt_of_lt_of_le hb HT.out.2.2.2.size) _ _ hrow)
      clear hrow hrl
      go_wp2_with fail
      refine HG.out.mono ?_
      rintro e w1 ⟨rfl, hin, hcc⟩
      have HT2 : Hid (SRel w w1 t g k (s.act (ll.getD j []))) := Lib.hid (HT.out.step (HT.out.1.act _) (s.act_n _) hin hcc)
      clear hin hcc HG hcell
      obtain ⟨s2, HZ0⟩ : ∃ s2, Hid (SRel w w1 t g k s2) := ⟨_, HT2⟩
      clear HT2 HT
      go_wp2_with fail
      go_loopw [9] (fun i wr => ∃ p : Nat, p ≤ k ∧ i = .int .i64 p ∧ Hid (SRel w wr t g k s2)) (fun i _ => k - (intOf i).toNat)
      case atStart => exact ⟨0, Nat.zero_le _, rfl, HZ0⟩
      case round =>
        clear HZ0
        obtain ⟨p, hpk, rfl, HZ⟩ := hrel
        by_cases hp : p < k
        · have hp1 : (p : Int) < k := by omega
          have HPK : Hid (p + 1 ≤ k) := Lib.hid hp
          have hpn : p < s2.n := by rw [HZ.out.2.1]; exact hp
          have HGT := Lib.hid (got_any _ _ t g s2 HZ.out.2.2.1 HZ.out.1.toSPre p)
          rw [s2.gotOf_at hpn] at HGT
          have HRI := Lib.hid (fun y => HZ.out.1.toSPre.risesD (y := y) hpn)
          have HSA := Lib.hid (fun q d (hq : q < k) => HZ.out.1.toSPre.sameD (q := q) (d := d) hpn (by rw [HZ.out.2.1]; exact hq))
          have hgl := HZ.out.1.toSPre.got_le hpn
          have hm20 := HZ.out.1.m20
          obtain ⟨l, HL⟩ : ∃ l, Hid (s2.got p = l) := ⟨_, Lib.hid rfl⟩
          rw [HL.out] at HGT HRI HSA hgl
          obtain ⟨la, HLA⟩ : ∃ x, Hid (l.length = x) := ⟨_, Lib.hid rfl⟩
          rw [HLA.out] at HRI HSA hgl
          have hla : la ≤ 20 := by omega
          clear hgl hm20 hpn
          go_wp2_with fail
          refine HGT.out.mono ?_
          rintro e wc ⟨v', rfl, hown, hc⟩
          have HZ2 : Hid (SRel w wc t g k s2 ∧ Rd (fun _ => True) wc v' l) := Lib.hid ⟨HZ.out.keep hc, Rd.ofOwns hown (fun _ _ => trivial)⟩
          obtain ⟨va, vc, rfl⟩ := HZ2.out.2.val
          rw [HLA.out] at HZ2 ⊢
          clear hown hc HGT HZ
          go_wp2_with fail
          go_loopw [11] (fun i wr => ∃ z : Nat, 1 ≤ z ∧ z ≤ la + 1 ∧ i = .int .i64 z ∧ Hid (SRel w wr t g k s2 ∧ Rd (fun _ => True) wr (.slice va la vc) l)) (fun i _ => la + 1 - (intOf i).toNat)
          case atStart => exact ⟨1, by omega, by omega, rfl, HZ2⟩
          case round =>
            clear HZ2
            obtain ⟨z, hz1, hzl, rfl, HZ⟩ := hrel
            by_cases hz : z < la
            · have hzi : (z : Int) < la := by omega
              have hy : z - 1 + 1 = z := by omega
              obtain ⟨b2, off2, c2, e1, _, hcell⟩ := HZ.out.2.form (by rw [HLA.out]; omega)
              simp only [Value.slice.injEq] at e1
              obtain ⟨rfl, -, rfl⟩ := e1
              have d0 := hcell (z - 1) (by rw [HLA.out]; omega)
              have d1 := hcell z (by rw [HLA.out]; exact hz)
              obtain ⟨r1, r2, r3, r4⟩ := HRI.out (z - 1) (by omega)
              rw [hy] at r2 r3 r4
              obtain ⟨gx, HX⟩ : ∃ x, Hid (l.getD (z - 1) 0 = x) := ⟨_, Lib.hid rfl⟩
              obtain ⟨gy, HY⟩ : ∃ x, Hid (l.getD z 0 = x) := ⟨_, Lib.hid rfl⟩
              rw [HX.out] at d0 r1 r3 r4
              rw [HY.out] at d1 r2 r3 r4
              have HT1 := Lib.hid (time_any _ _ t g s2 HZ.out.1.2.2.1 HZ.out.1.1.toSPre p gx)
              have HT2 := Lib.hid (fun (wd : World) (hc : Chg NoF _ wd) => time_any _ wd t g s2 (HZ.out.1.keep hc).2.2.1 HZ.out.1.1.toSPre p gy)
              obtain ⟨tx, HTX⟩ : ∃ x, Hid (s2.timeOf p gx = x) := ⟨_, Lib.hid rfl⟩
              obtain ⟨ty, HTY⟩ : ∃ x, Hid (s2.timeOf p gy = x) := ⟨_, Lib.hid rfl⟩
              rw [HTX.out] at HT1 r3 r4
              rw [HTY.out] at HT2 r3 r4
              rw [r1] at HT1
              rw [r2] at HT2
              have hzz : (1 : Int) ≤ z := by omega
              have HGT : Hid (decide (ty < tx) = false) := Lib.hid (by rw [decide_eq_false_iff_not]; omega)
              have HGE : Hid (tx = ty → decide (gy ≤ gx) = false) := Lib.hid (fun e => by rw [decide_eq_false_iff_not]; have := r4 e; omega)
              clear r3 r4
              have HZL : Hid (z + 1 ≤ la + 1) := Lib.hid (by omega)
              clear hcell r1 r2 hy hz
              go_wp2_with fail
              refine HT1.out.mono ?_
              rintro e wd ⟨rfl, hcd⟩
              have d0' := hcd.cell_some d0 (fun h => h)
              have d1' := hcd.cell_some d1 (fun h => h)
              have HT3 := Lib.hid (HT2.out wd hcd)
              have HCD := Lib.hid hcd
              clear HT1 HT2 hcd d0 d1
              go_wp2_with fail
              refine HT3.out.mono ?_
              rintro e wf ⟨rfl, hcf⟩
              have d0 := hcf.cell_some d0' (fun h => h)
              have d1 := hcf.cell_some d1' (fun h => h)
              have HZ3 : Hid (SRel w wf.drew t g k s2 ∧ Rd (fun _ => True) wf.drew (.slice (some ⟨b2, off2, none⟩) la vc) l) := Lib.hid (by
                have hh := (HCD.out.trans hcf).drew
                exact ⟨HZ.out.1.keep hh, HZ.out.2.keep hh (fun _ _ h => h)⟩)
              clear HT3 hcf d0' d1' HCD HZ
              by_cases he : tx = ty
              · have hbe : (tx == ty) = true := by rw [he]; simp
                have HGE2 := Lib.hid (HGE.out he)
                clear he
                go_wp2_with fail
                have hgt := HGT.out
                have hge := HGE2.out
                obtain ⟨yy, HYY⟩ : ∃ x, Hid (z - 1 = x) := ⟨_, Lib.hid rfl⟩
                have hwz : IntKind.i64.wrap ((z : Int) - 1) = (yy : Int) := by rw [IntWalk.i64_in _ (by omega)]; have := HYY.out; omega
                have hyl : (yy : Int) < la := by have := HYY.out; omega
                rw [HYY.out] at d0
                refine wp_region_plan (Chg NoF wf) 28 [(0,true),(1,true),(2,true),(3,true),(4,true),(5,true),(6,true),(7,true),(8,true),(9,true),(10,true),(11,true),(12,true),(13,true),(14,true),(15,true),(16,true),(17,true),(18,true),(19,true),(20,true),(21,true),(22,true),(23,true),(24,true),(25,true),(26,true),(27,true)] mixed (by kernel_rfl) (Chg.refl _ _).drew ?_
                simp only [planOps, List.map_cons, List.map_nil, List.getElem?_cons_zero, List.getElem?_cons_succ, Option.getD_some]
                generalize hops : List.toArray _ = ops
                iterate 3 (refine wpPlan_quiet (v := ?_) rfl (fun _ _ _ h => h) (by intro w1 hS; clear hS; go_simp; with_reducible rfl) ?_; (simp only [Act.put, List.setIfInBounds_toArray, List.set_cons_zero, List.set_cons_succ]))
                iterate 2 (refine wpPlan_quietG (v := ?_) (by rw [← hops]; rfl) (fun _ _ _ h => h) (by intro w1 hS; clear hS; go_simp; with_reducible rfl) ?_; (simp only [Act.put, List.setIfInBounds_toArray, List.set_cons_zero, List.set_cons_succ]))
                iterate 2 (refine wpPlan_quiet (v := ?_) rfl (fun _ _ _ h => h) (by intro w1 hS; clear hS; go_simp; with_reducible rfl) ?_; (simp only [Act.put, List.setIfInBounds_toArray, List.set_cons_zero, List.set_cons_succ]))
                iterate 3 (refine wpPlan_quietG (v := ?_) (by rw [← hops]; rfl) (fun _ _ _ h => h) (by intro w1 hS; clear hS; go_simp; with_reducible rfl) ?_; (simp only [Act.put, List.setIfInBounds_toArray, List.set_cons_zero, List.set_cons_succ]))
                iterate 2 (refine wpPlan_quiet (v := ?_) rfl (fun _ _ _ h => h) (by intro w1 hS; clear hS; go_simp; with_reducible rfl) ?_; (simp only [Act.put, List.setIfInBounds_toArray, List.set_cons_zero, List.set_cons_succ]))
                iterate 4 (refine wpPlan_quietG (v := ?_) (by rw [← hops]; rfl) (fun _ _ _ h => h) (by intro w1 hS; clear hS; go_simp; with_reducible rfl) ?_; (simp only [Act.put, List.setIfInBounds_toArray, List.set_cons_zero, List.set_cons_succ]))
                iterate 10 (refine wpPlan_quietG (v := ?_) (by rw [← hops]; rfl) (fun _ _ _ h => h) (by intro w1 hS; have s0 := hS.cell_some d0 (fun h => h); have s1 := hS.cell_some d1 (fun h => h); clear hS; go_simp; with_reducible rfl) ?_; (simp only [Act.put, List.setIfInBounds_toArray, List.set_cons_zero, List.set_cons_succ]))
                (refine wpPlan_quietG (v := ?_) (by rw [← hops]; rfl) (fun _ _ _ h => h) (by intro w1 hS; clear hS; go_simp; with_reducible rfl) ?_; (simp only [Act.put, List.setIfInBounds_toArray, List.set_cons_zero, List.set_cons_succ]))
                (refine wpPlan_quiet (v := ?_) rfl (fun _ _ _ h => h) (by intro w1 hS; clear hS; go_simp; with_reducible rfl) ?_; (simp only [Act.put, List.setIfInBounds_toArray, List.set_cons_zero, List.set_cons_succ]))
                clear hops
                refine wpPlan_nil ?_
                clear d0 d1 hgt
                go_wp2
                go_roundw
                case rel => exact ⟨z + 1, by omega, HZL.out, by go_num, HZ3⟩
                case measure => have := HZL.out; simp [intOf]; omega
              · have hbe : (tx == ty) = false := by rw [beq_eq_false_iff_ne]; exact he
                clear he
                go_wp2_with fail
                have hgt := HGT.out
                refine wp_region_plan (Chg NoF wf) 28 [(0,true),(1,true),(2,true),(3,true),(4,true),(5,true),(6,true),(7,true),(8,true),(9,true),(10,true),(11,true),(12,true),(13,true),(14,true),(15,true),(16,true),(17,true),(18,true),(19,true),(20,true),(21,true),(22,true),(23,true),(24,true),(25,true),(26,true),(27,true)] mixed (by kernel_rfl) (Chg.refl _ _).drew ?_
                simp only [planOps, List.map_cons, List.map_nil, List.getElem?_cons_zero, List.getElem?_cons_succ, Option.getD_some]
                generalize hops : List.toArray _ = ops
                iterate 3 (refine wpPlan_quiet (v := ?_) rfl (fun _ _ _ h => h) (by intro w1 hS; clear hS; go_simp; with_reducible rfl) ?_; (simp only [Act.put, List.setIfInBounds_toArray, List.set_cons_zero, List.set_cons_succ]))
                iterate 2 (refine wpPlan_quietG (v := ?_) (by rw [← hops]; rfl) (fun _ _ _ h => h) (by intro w1 hS; clear hS; go_simp; with_reducible rfl) ?_; (simp only [Act.put, List.setIfInBounds_toArray, List.set_cons_zero, List.set_cons_succ]))
                iterate 2 (refine wpPlan_quiet (v := ?_) rfl (fun _ _ _ h => h) (by intro w1 hS; clear hS; go_simp; with_reducible rfl) ?_; (simp only [Act.put, List.setIfInBounds_toArray, List.set_cons_zero, List.set_cons_succ]))
                iterate 3 (refine wpPlan_quietG (v := ?_) (by rw [← hops]; rfl) (fun _ _ _ h => h) (by intro w1 hS; clear hS; go_simp; with_reducible rfl) ?_; (simp only [Act.put, List.setIfInBounds_toArray, List.set_cons_zero, List.set_cons_succ]))
                iterate 2 (refine wpPlan_quiet (v := ?_) rfl (fun _ _ _ h => h) (by intro w1 hS; clear hS; go_simp; with_reducible rfl) ?_; (simp only [Act.put, List.setIfInBounds_toArray, List.set_cons_zero, List.set_cons_succ]))
                iterate 4 (refine wpPlan_quietG (v := ?_) (by rw [← hops]; rfl) (fun _ _ _ h => h) (by intro w1 hS; clear hS; go_simp; with_reducible rfl) ?_; (simp only [Act.put, List.setIfInBounds_toArray, List.set_cons_zero, List.set_cons_succ]))
                iterate 10 (refine wpPlan_skip (by rw [← hops]; rfl) (fun _ _ _ h => h) ?_; (simp only [Act.put, List.setIfInBounds_toArray, List.set_cons_zero, List.set_cons_succ]))
                (refine wpPlan_quietG (v := ?_) (by rw [← hops]; rfl) (fun _ _ _ h => h) (by intro w1 hS; clear hS; go_simp; with_reducible rfl) ?_; (simp only [Act.put, List.setIfInBounds_toArray, List.set_cons_zero, List.set_cons_succ]))
                (refine wpPlan_quiet (v := ?_) rfl (fun _ _ _ h => h) (by intro w1 hS; clear hS; go_simp; with_reducible rfl) ?_; (simp only [Act.put, List.setIfInBounds_toArray, List.set_cons_zero, List.set_cons_succ]))
                clear hops
                refine wpPlan_nil ?_
                clear d0 d1 hgt
                go_wp2
                go_roundw
                case rel => exact ⟨z + 1, by omega, HZL.out, by go_num, HZ3⟩
                case measure => have := HZL.out; simp [intOf]; omega
            · have hzi : ¬ (z : Int) < la := by omega
              clear hz hz1 hzl
              go_wp2_with fail
              clear hzi
              go_loopw [16] (fun i wr => ∃ q : Nat, q ≤ p ∧ i = .int .i64 q ∧ Hid (SRel w wr t g k s2 ∧ Rd (fun _ => True) wr (.slice va la vc) l)) (fun i _ => p - (intOf i).toNat)
              case atStart => exact ⟨0, Nat.zero_le _, rfl, HZ⟩
              case round =>
                clear HZ
                obtain ⟨q, hqp, rfl, HZ⟩ := hrel
                by_cases hq : q < p
                · have hq1 : (q : Int) < p := by omega
                  have HQP : Hid (q + 1 ≤ p) := Lib.hid hq
                  have hqn : q < s2.n := by rw [HZ.out.1.2.1]; omega
                  have HGT := Lib.hid (got_any _ _ t g s2 HZ.out.1.2.2.1 HZ.out.1.1.toSPre q)
                  rw [s2.gotOf_at hqn] at HGT
                  have HSD := Lib.hid (fun d => HSA.out q d (by omega))
                  have hgl := HZ.out.1.1.toSPre.got_le hqn
                  have hm20 := HZ.out.1.1.m20
                  obtain ⟨l2, HL2⟩ : ∃ l, Hid (s2.got q = l) := ⟨_, Lib.hid rfl⟩
                  rw [HL2.out] at HGT HSD hgl
                  obtain ⟨lb, HLB⟩ : ∃ x, Hid (l2.length = x) := ⟨_, Lib.hid rfl⟩
                  rw [HLB.out] at HSD hgl
                  have hlb2 : lb ≤ 20 := by omega
                  clear hgl hm20 hqn hq hqp
                  go_wp2_with fail
                  refine HGT.out.mono ?_
                  rintro e wd ⟨v', rfl, hown, hc⟩
                  have HZ2 : Hid (SRel w wd t g k s2 ∧ Rd (fun _ => True) wd (.slice va la vc) l ∧ Rd (fun _ => True) wd v' l2) := Lib.hid ⟨HZ.out.1.keep hc, HZ.out.2.keep hc (fun _ _ h => h), Rd.ofOwns hown (fun _ _ => trivial)⟩
                  obtain ⟨vb, vd, rfl⟩ := HZ2.out.2.2.val
                  rw [HLB.out] at HZ2 ⊢
                  clear hown hc HGT HZ
                  go_wp2_with fail
                  go_loopw [18] (fun i wr => ∃ d : Nat, d ≤ la ∧ i = .int .i64 d ∧ Hid (SRel w wr t g k s2 ∧ Rd (fun _ => True) wr (.slice va la vc) l ∧ Rd (fun _ => True) wr (.slice vb lb vd) l2)) (fun i _ => la - (intOf i).toNat)
                  case atStart => exact ⟨0, Nat.zero_le _, rfl, HZ2⟩
                  case round =>
                    clear HZ2
                    obtain ⟨d, hdl, rfl, HZ⟩ := hrel
                    by_cases hd : d < la ∧ d < lb
                    · obtain ⟨hd1, hd2⟩ := hd
                      have hd3 : (d : Int) < la := by omega
                      have hd4 : (d : Int) < lb := by omega
                      have HDL : Hid (d + 1 ≤ la) := Lib.hid hd1
                      obtain ⟨b2, off2, c2, e1, _, hcell⟩ := HZ.out.2.1.form (by rw [HLA.out]; omega)
                      simp only [Value.slice.injEq] at e1
                      obtain ⟨rfl, -, rfl⟩ := e1
                      obtain ⟨b3, off3, c3, e1, _, hcell3⟩ := HZ.out.2.2.form (by rw [HLB.out]; omega)
                      simp only [Value.slice.injEq] at e1
                      obtain ⟨rfl, -, rfl⟩ := e1
                      have d0 := hcell d (by rw [HLA.out]; exact hd1)
                      have d1 := hcell3 d (by rw [HLB.out]; exact hd2)
                      have hsd := HSD.out d hd1 hd2
                      rw [← hsd] at d1
                      obtain ⟨gx, HX⟩ : ∃ x, Hid (l.getD d 0 = x) := ⟨_, Lib.hid rfl⟩
                      rw [HX.out] at d0 d1
                      clear hsd hcell hcell3 hd1 hd2
                      go_wp2_with fail
                      refine wp_region_plan (Chg NoF _) 9 [(0,true),(1,true),(2,true),(3,true),(4,true),(5,true),(6,true),(7,true),(8,true)] mixed (by kernel_rfl) (Chg.refl _ _).drew ?_
                      simp only [planOps, List.map_cons, List.map_nil, List.getElem?_cons_zero, List.getElem?_cons_succ, Option.getD_some]
                      generalize hops : List.toArray _ = ops
                      iterate 9 (refine wpPlan_quiet (v := ?_) rfl (fun _ _ _ h => h) (by intro w1 hS; have s0 := hS.cell_some d0 (fun h => h); have s1 := hS.cell_some d1 (fun h => h); clear hS; go_simp; with_reducible rfl) ?_; (simp only [Act.put, List.setIfInBounds_toArray, List.set_cons_zero, List.set_cons_succ]))
                      clear hops
                      refine wpPlan_nil ?_
                      have HZ3 := Lib.hid (⟨HZ.out.1.keep ((Chg.refl NoF _).drew), HZ.out.2.1.keep ((Chg.refl NoF _).drew) (fun _ _ h => h), HZ.out.2.2.keep ((Chg.refl NoF _).drew) (fun _ _ h => h)⟩ : _ ∧ _ ∧ _)
                      clear d0 d1
                      go_wp2
                      go_roundw
                      case rel => exact ⟨d + 1, HDL.out, by go_num, HZ3⟩
                      case measure => have := HDL.out; simp [intOf]; omega
                    · have hdd : ¬ (d : Int) < la ∨ ((d : Int) < la ∧ ¬ (d : Int) < lb) := by omega
                      have HZ3 : Hid (SRel w _ t g k s2 ∧ Rd (fun _ => True) _ (.slice va la vc) l) := Lib.hid ⟨HZ.out.1, HZ.out.2.1⟩
                      clear hd HZ
                      rcases hdd with hdd | ⟨hd3, hd4⟩
                      all_goals
                        go_wp2
                        go_roundw
                        case rel => exact ⟨q + 1, HQP.out, by go_num, HZ3⟩
                        case measure => have := HQP.out; simp [intOf]; omega
                · have hq1 : ¬ (q : Int) < p := by omega
                  have HZ3 := Lib.hid HZ.out.1
                  go_wp2
                  go_roundw
                  case rel => exact ⟨p + 1, HPK.out, by go_num, HZ3⟩
                  case measure => have := HPK.out; simp [intOf]; omega
        · have hp1 : ¬ (p : Int) < k := by omega
          go_wp2
          go_roundw
          case rel => exact ⟨j + 1, by omega, by omega, by go_num, _, HZ⟩
          case measure => simp [intOf]; omega
    · have hb : ¬ (j : Int) < sl ∨ ((j : Int) < sl ∧ ¬ (j : Int) < 150) := by omega
      have HEND := Lib.hid HT.out.2.2.2
      clear hlt HT
      rcases hb with hb | ⟨hb1, hb2⟩
      all_goals
        go_wp2
        go_ret
        exact ⟨rfl, HEND.out⟩

end Go.Proofs.Ythieompmmpbioaa
