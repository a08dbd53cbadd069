/-
  What the document says is wrong with who is near whom.
  Conditions: the sets are read as a list of integers.
-/
import Derived.Test.YtckgkgaoioigdaaDoorEcB
import Derived.Test.YtckgkgaoioigdaaDoorEcK
import Derived.Test.YtckgkgaoioigdaaDoorBit
import Derived.Test.YtckgkgaoioigdaaDoorRef
namespace Go.Proofs.YtckgkgaoioigdaaDoor
open Go Go.RowKit

theorem bitB_bit (x i : Nat) : bitB x i = x.testBit i := by
  unfold bitB; rw [Nat.testBit_eq_decide_div_mod_eq]
theorem bit_ref (x i : Nat) (hx : x < 2 ^ 40) (hi : i ≤ 40) (w : World) :
    Calls Tryd.prog 17 #[.int .i64 x, .int .i64 i] w fun e w' => e = .returned (.bool (x.testBit i)) ∧ w = w' := by
  rw [← bitB_bit]; exact bit_any x i (by omega) (by omega) w

set_option maxHeartbeats 1000000 in
theorem mask_ref (x : Int) (n : Nat) (hn : n ≤ 5) (w : World) :
    Calls Tryd.prog 16 #[.int .i64 x, .int .i64 n] w fun e w' => e = .returned (.bool (decide (0 ≤ x) && decide (x < ((2 ^ n : Nat) : Int)))) ∧ w = w' := by
  have HP := Lib.hid (pow2_any n w (by omega))
  obtain ⟨m, HM⟩ : ∃ m : Nat, Hid (2 ^ n = m) := ⟨_, Lib.hid rfl⟩
  rw [HM.out] at HP ⊢
  by_cases h0 : 0 ≤ x
  · have HD : Hid (decide (0 ≤ x) = true) := Lib.hid (decide_eq_true h0)
    go_enter Tryd.func16, Tryd.ntmps16
    go_wp2_with fail
    refine HP.out.mono ?_
    rintro e w' ⟨rfl, rfl⟩
    go_wp2
    go_ret
    exact ⟨by rw [HD.out]; rfl, rfl⟩
  · have HD : Hid (decide (0 ≤ x) = false) := Lib.hid (decide_eq_false h0)
    go_enter Tryd.func16, Tryd.ntmps16
    go_wp2
    go_ret
    exact ⟨by rw [HD.out]; rfl, rfl⟩

set_option maxHeartbeats 8000000 in
set_option maxRecDepth 100000 in
theorem near_ref (S : Nat → Prop) (v : Value) (l : List Int) (w : World) (hr : Rd S w v l) (hlb : l.length ≤ 9223372036854775807) :
    Calls Tryd.prog 4 #[v] w fun e w' => e = .returned (.int .i64 (checkErr l)) ∧ Chg NoF w w' := by
  by_cases h0 : l.length = 0
  · have hE : Hid (checkErr l = 5) := Lib.hid (by unfold checkErr; rw [if_pos h0])
    obtain ⟨pa, ca, rfl⟩ := hr.val
    rw [h0]
    clear hr hlb h0
    go_enter Tryd.func4, Tryd.ntmps4
    go_wp2
    go_ret
    exact ⟨by rw [hE.out]; try rfl, Chg.refl _ _⟩
  by_cases h5 : 5 < l.length
  · have hE : Hid (checkErr l = 4) := Lib.hid (by unfold checkErr; rw [if_neg h0, if_pos h5])
    obtain ⟨pa, ca, rfl⟩ := hr.val
    have hz : ((l.length : Int) == 0) = false := by rw [beq_eq_false_iff_ne]; omega
    have h5i : (5 : Int) < l.length := by omega
    clear hr h0
    go_enter Tryd.func4, Tryd.ntmps4
    go_wp2
    go_ret
    exact ⟨by rw [hE.out]; try rfl, Chg.refl _ _⟩
  obtain ⟨b, off, c, rfl, _, hcell⟩ := hr.form (by omega)
  have HC := Lib.hid hcell
  have HEE : Hid (checkErr l = if (List.range l.length).any (fun i => !maskB l i) = true then 1 else if (List.range l.length).any (fun i => (List.range l.length).any fun j => clashB l i j) = true then 6 else if reachN l l.length ≠ 2 ^ l.length - 1 then 3 else 0) := Lib.hid (by
    unfold checkErr; rw [if_neg h0, if_neg h5])
  obtain ⟨n, hN⟩ : ∃ n, Hid (l.length = n) := ⟨_, Lib.hid rfl⟩
  have hz : ((l.length : Int) == 0) = false := by rw [beq_eq_false_iff_ne]; omega
  have h5i : ¬ (5 : Int) < l.length := by omega
  rw [hN.out] at HEE HC hz h5i h0 h5 ⊢
  have hn1 : 1 ≤ n := by omega
  have hn5 : n ≤ 5 := by omega
  have HMK : ∀ i, Hid (maskB l i = (decide (0 ≤ l.getD i 0) && decide (l.getD i 0 < ((2 ^ n : Nat) : Int)))) := fun i => Lib.hid (by unfold maskB; rw [hN.out])
  have HMK := Lib.hid HMK
  clear hr hcell h0 h5 hlb
  go_enter Tryd.func4, Tryd.ntmps4
  go_wp2_with fail
  clear hz h5i
  go_loop [4] (fun i => ∃ k : Nat, k ≤ n ∧ i = .int .i64 k ∧ Hid (∀ j, j < k → maskB l j = true)) (fun i => n - (intOf i).toNat)
  case atStart => exact ⟨0, Nat.zero_le _, rfl, Lib.hid fun j hj => by omega⟩
  case round =>
    obtain ⟨k, hkn, rfl, HB⟩ := hrel
    by_cases hlt : k < n
    · obtain ⟨x, HX⟩ : ∃ x, Hid (l.getD k 0 = x) := ⟨_, Lib.hid rfl⟩
      have d0 : w.cell? ⟨b, off + k, none⟩ = some (.int .i64 x) := by rw [HC.out k hlt, HX.out]
      have hk1 : (k : Int) < n := by omega
      have HM2 := Lib.hid ((HMK.out k).out)
      rw [HX.out] at HM2
      cases hin : maskB l k with
      | false =>
        rw [hin] at HM2
        have hE : Hid (checkErr l = 1) := Lib.hid (by rw [HEE.out, if_pos (any_true (i := k) hlt (by rw [hin]; rfl))])
        clear hin
        go_wp2_with fail
        refine (mask_ref x n hn5 w).mono ?_
        rintro e w' ⟨rfl, rfl⟩
        rw [← HM2.out]
        go_wp2
        go_ret
        exact ⟨by rw [hE.out]; try rfl, Chg.refl _ _⟩
      | true =>
        rw [hin] at HM2
        have HB' : Hid (∀ j, j < k + 1 → maskB l j = true) := Lib.hid fun j hj => by
          by_cases e : j = k
          · subst e; exact hin
          · exact HB.out j (by omega)
        clear hin
        go_wp2_with fail
        refine (mask_ref x n hn5 w).mono ?_
        rintro e w' ⟨rfl, rfl⟩
        rw [← HM2.out]
        go_wp2
        go_round
        case rel => exact ⟨k + 1, by omega, by go_num, HB'⟩
        case measure => simp [intOf]; omega
    · obtain rfl : k = n := by omega
      have hk1 : ¬ (k : Int) < k := by omega
      have HMA : Hid ((List.range k).any (fun i => !maskB l i) = false) := Lib.hid (any_none fun i hi => by rw [HB.out i hi]; rfl)
      have HNL : Hid (∀ i, i < k → nearOf l i < 2 ^ 40 ∧ l.getD i 0 = (nearOf l i : Int)) := Lib.hid fun i hi => by
        have h := near_lt (HB.out i hi)
        rw [hN.out] at h
        exact ⟨Nat.lt_of_lt_of_le h.1 (Nat.pow_le_pow_right (by omega) (by omega)), h.2⟩
      have HLT : Hid (∀ i, i < l.length → nearOf l i < 2 ^ l.length) := Lib.hid fun i hi => (near_lt (HB.out i (by rw [← hN.out]; exact hi))).1
      have HCN : Hid (∀ i, i < k → w.cell? ⟨b, off + i, none⟩ = some (.int .i64 (nearOf l i))) := Lib.hid fun i hi => by rw [HC.out i hi, (HNL.out i hi).2]
      clear hlt HB
      go_wp2_with fail
      clear hk1
      go_loop [5] (fun i => ∃ p : Nat, p ≤ k ∧ i = .int .i64 p ∧ Hid (∀ i j, i < p → j < k → clashB l i j = false)) (fun i => k - (intOf i).toNat)
      case atStart => exact ⟨0, Nat.zero_le _, rfl, Lib.hid fun i j hi => by omega⟩
      case round =>
        obtain ⟨p, hpk, rfl, HB⟩ := hrel
        by_cases hp : p < k
        · have hp1 : (p : Int) < k := by omega
          have dp := HCN.out p hp
          obtain ⟨np, HNP⟩ : ∃ x, Hid (nearOf l p = x) := ⟨_, Lib.hid rfl⟩
          have hnp := (HNL.out p hp).1
          rw [HNP.out] at dp hnp
          have HPK : Hid (p + 1 ≤ k) := Lib.hid hp
          go_wp2_with fail
          clear dp
          go_loop [6] (fun i => ∃ q : Nat, q ≤ k ∧ i = .int .i64 q ∧ Hid (∀ j, j < q → clashB l p j = false)) (fun i => k - (intOf i).toNat)
          case atStart => exact ⟨0, Nat.zero_le _, rfl, Lib.hid fun j hj => by omega⟩
          case round =>
            obtain ⟨q, hqk, rfl, HQ⟩ := hrel
            by_cases hq : q < k
            · have hq1 : (q : Int) < k := by omega
              have HQK : Hid (q + 1 ≤ k) := Lib.hid hq
              have dq := HCN.out q hq
              have dp := HCN.out p HPK.out
              rw [HNP.out] at dp
              obtain ⟨nq, HNQ⟩ : ∃ x, Hid (nearOf l q = x) := ⟨_, Lib.hid rfl⟩
              have hnq := (HNL.out q hq).1
              rw [HNQ.out] at dq hnq
              have HCL : Hid (clashB l p q = (np.testBit q && (decide (p = q) || !(nq.testBit p)))) := Lib.hid (by unfold clashB; rw [HNP.out, HNQ.out])
              have HN' : clashB l p q = false → Hid (∀ j, j < q + 1 → clashB l p j = false) := fun h => Lib.hid fun j hj => by
                by_cases e : j = q
                · subst e; exact h
                · exact HQ.out j (by omega)
              have HY : clashB l p q = true → Hid (checkErr l = 6) := fun h => Lib.hid (by
                rw [HEE.out, if_neg (by rw [HMA.out]; simp), if_pos (any_true (i := p) hp (any_true (i := q) hq h))])
              have HNN := Lib.hid HN'
              have HYY := Lib.hid HY
              clear HN' HY HQ
              cases h1 : np.testBit q with
              | false =>
                have HB2 := HNN.out (by rw [HCL.out, h1]; rfl)
                have H1 := Lib.hid h1
                clear h1
                go_wp2_with fail
                refine (bit_ref np q hnp (by omega) w).mono ?_
                rintro e w' ⟨rfl, rfl⟩
                rw [H1.out]
                go_wp2
                go_round
                case rel => exact ⟨q + 1, HQK.out, by go_num, HB2⟩
                case measure => have := HQK.out; simp [intOf]; omega
              | true =>
                have H1 := Lib.hid h1
                by_cases hpq : p = q
                · have HE := HYY.out (by rw [HCL.out, h1, decide_eq_true hpq]; rfl)
                  have hb : ((p : Int) == q) = true := by rw [hpq]; simp
                  clear h1 hpq
                  go_wp2_with fail
                  refine (bit_ref np q hnp (by omega) w).mono ?_
                  rintro e w' ⟨rfl, rfl⟩
                  rw [H1.out]
                  go_wp2
                  go_ret
                  exact ⟨by rw [HE.out]; try rfl, Chg.refl _ _⟩
                · have hb : ((p : Int) == q) = false := by rw [beq_eq_false_iff_ne]; omega
                  cases h2 : nq.testBit p with
                  | false =>
                    have HE := HYY.out (by rw [HCL.out, h1, h2]; simp)
                    have H2 := Lib.hid h2
                    clear h1 hpq h2
                    go_wp2_with fail
                    refine (bit_ref np q hnp (by omega) w).mono ?_
                    rintro e w' ⟨rfl, rfl⟩
                    rw [H1.out]
                    go_wp2_with fail
                    refine (bit_ref nq p hnq (by omega) w).mono ?_
                    rintro e w' ⟨rfl, rfl⟩
                    rw [H2.out]
                    go_wp2
                    go_ret
                    exact ⟨by rw [HE.out]; try rfl, Chg.refl _ _⟩
                  | true =>
                    have HB2 := HNN.out (by rw [HCL.out, h1, h2, decide_eq_false hpq]; rfl)
                    have H2 := Lib.hid h2
                    clear h1 hpq h2
                    go_wp2_with fail
                    refine (bit_ref np q hnp (by omega) w).mono ?_
                    rintro e w' ⟨rfl, rfl⟩
                    rw [H1.out]
                    go_wp2_with fail
                    refine (bit_ref nq p hnq (by omega) w).mono ?_
                    rintro e w' ⟨rfl, rfl⟩
                    rw [H2.out]
                    go_wp2
                    go_round
                    case rel => exact ⟨q + 1, HQK.out, by go_num, HB2⟩
                    case measure => have := HQK.out; simp [intOf]; omega
            · have hq1 : ¬ (q : Int) < k := by omega
              have HB2 : Hid (∀ i j, i < p + 1 → j < k → clashB l i j = false) := Lib.hid fun i j hi hj => by
                by_cases e : i = p
                · subst e; exact HQ.out j (by omega)
                · exact HB.out i j (by omega) hj
              go_wp2
              go_round
              case rel => exact ⟨p + 1, HPK.out, by go_num, HB2⟩
              case measure => have := HPK.out; simp [intOf]; omega
        · have hp1 : ¬ (p : Int) < k := by omega
          have HCA : Hid ((List.range k).any (fun i => (List.range k).any fun j => clashB l i j) = false) := Lib.hid (any_none fun i hi => any_none fun j hj => HB.out i j (by omega) hj)
          have HHM : Hid (∀ i, i < l.length → nearOf l i < 2 ^ l.length) := HLT
          have hkk : (0 : Int) ≤ k := by omega
          have HKL : Hid (k = l.length) := Lib.hid hN.out.symm
          have HK5 : Hid (1 ≤ k ∧ k ≤ 5) := Lib.hid ⟨hn1, hn5⟩
          clear hp HB
          go_wp2_with fail
          go_loopw [7, 8, 9] (fun c i _ wr => ∃ (a : Nat) (cl : List Int), i = .int .i64 a ∧ a ≤ cl.length ∧ Hid (Come l a 0 cl) ∧ Hid (Rd (fun _ => True) wr c cl) ∧ Hid (Chg NoF w wr)) (fun _ i _ _ => k - (intOf i).toNat)
          case atStart => exact ⟨0, [0], rfl, Nat.zero_le _, Lib.hid (come_start (by rw [← HKL.out]; exact HK5.out.1)), Lib.hid (Rd.built w _ [0] 1 _ trivial), Lib.hid ((Chg.refl _ w).alloc _)⟩
          case round =>
            obtain ⟨a, cl, rfl, hal, HCO, HRD, HCG⟩ := hrel
            obtain ⟨va, vc, rfl⟩ := HRD.out.val
            have hmk := HCO.out.le
            rw [← HKL.out] at hmk
            obtain ⟨m, HM⟩ : ∃ m, Hid (cl.length = m) := ⟨_, Lib.hid rfl⟩
            rw [HM.out] at HRD hal hmk ⊢
            by_cases ha : a < m
            · have ha1 : (a : Int) < m := by omega
              have HAM : Hid (a < m ∧ m ≤ k) := Lib.hid ⟨ha, hmk⟩
              clear ha hal
              go_wp2_with fail
              go_loopw [7, 9] (fun c j wr => ∃ (q : Nat) (cl : List Int), j = .int .i64 q ∧ q ≤ k ∧ a < cl.length ∧ Hid (Come l a q cl) ∧ Hid (Rd (fun _ => True) wr c cl) ∧ Hid (Chg NoF w wr)) (fun _ j _ => k - (intOf j).toNat)
              case atStart => exact ⟨0, cl, rfl, Nat.zero_le _, by rw [HM.out]; exact HAM.out.1, HCO, HRD, HCG⟩
              case round =>
                clear HCO HRD HCG HM ha1 hmk
                obtain ⟨q, cl, rfl, hqk, hal, HCO, HRD, HCG⟩ := hrel
                obtain ⟨bc, oc, vc, rfl, -, hcc⟩ := HRD.out.form (by omega)
                have hmk := HCO.out.le
                rw [← HKL.out] at hmk
                obtain ⟨x, e1, hx, hxb⟩ := HCO.out.el a hal
                have d0 := hcc a hal
                rw [e1] at d0
                have d1 := HCG.out.cell_some (HCN.out x (by rw [HKL.out]; exact hx)) (fun h => h)
                obtain ⟨nx, HNX⟩ : ∃ z, Hid (nearOf l x = z) := ⟨_, Lib.hid rfl⟩
                have hnx := (HNL.out x (by rw [HKL.out]; exact hx)).1
                have HXN : Hid ((cl.getD a 0).toNat = x) := Lib.hid (by rw [e1]; omega)
                have HXK : Hid (x < k) := Lib.hid (by rw [HKL.out]; exact hx)
                rw [HNX.out] at d1 hnx
                have hxk : (x : Int) < k := by have := HXK.out; omega
                obtain ⟨m, HM⟩ : ∃ m, Hid (cl.length = m) := ⟨_, Lib.hid rfl⟩
                rw [HM.out] at HRD hal hmk ⊢
                have HAM : Hid (a < m ∧ m ≤ k) := Lib.hid ⟨hal, hmk⟩
                have ham : (a : Int) < m := by omega
                clear e1 hx hxb hcc hal hmk
                by_cases hq : q < k
                · have hq1 : (q : Int) < k := by omega
                  have HQK : Hid (q + 1 ≤ k) := Lib.hid hq
                  clear hq hqk
                  cases h1 : nx.testBit q with
                  | false =>
                    have H1 := Lib.hid h1
                    have HC2 := Lib.hid (HCO.out.skip (fun h => by rw [HXN.out, HNX.out, H1.out] at h; cases h))
                    clear h1
                    go_wp2_with fail
                    refine (bit_ref nx q hnx (by have := HQK.out; have := HK5.out; omega) wr).mono ?_
                    rintro e w' ⟨rfl, rfl⟩
                    rw [H1.out]
                    go_wp2
                    go_roundw
                    case rel => exact ⟨q + 1, cl, by go_num, HQK.out, by rw [HM.out]; exact HAM.out.1, HC2, HRD, HCG⟩
                    case measure => have := HQK.out; simp [intOf]; omega
                  | true =>
                    have H1 := Lib.hid h1
                    clear h1
                    go_wp2_with fail
                    refine (bit_ref nx q hnx (by have := HQK.out; have := HK5.out; omega) wr).mono ?_
                    rintro e w' ⟨rfl, rfl⟩
                    rw [H1.out]
                    go_wp2_with fail
                    refine (has_ref (fun _ => True) _ cl (q : Int) wr HRD.out (by have := HM.out; have := HAM.out; have := HK5.out; omega)).mono ?_
                    rintro e w' ⟨rfl, rfl⟩
                    cases h2 : cl.contains (q : Int) with
                    | true =>
                      have H2 := Lib.hid h2
                      have HC2 := Lib.hid (HCO.out.skip (fun h => List.contains_iff_mem.1 H2.out))
                      clear h2
                      go_wp2
                      go_roundw
                      case rel => exact ⟨q + 1, cl, by go_num, HQK.out, by rw [HM.out]; exact HAM.out.1, HC2, HRD, HCG⟩
                      case measure => have := HQK.out; simp [intOf]; omega
                    | false =>
                      have H2 := Lib.hid h2
                      have HC2 := Lib.hid (HCO.out.add (by rw [HM.out]; exact HAM.out.1) (by rw [← HKL.out]; exact HQK.out) (by rw [HXN.out, HNX.out]; exact H1.out) (fun h => by rw [List.contains_iff_mem.2 h] at H2; cases H2.out))
                      clear h2 d0 d1
                      go_wp2_with fail
                      refine (more_any (fun _ => True) _ cl (q : Int) wr HRD.out (by have := HM.out; have := HAM.out; have := HK5.out; omega)).mono ?_
                      rintro e w2 ⟨v2, rfl, hown, hc2⟩
                      have HR2 := Lib.hid (Rd.ofOwns (S := fun _ => True) hown (fun _ _ => trivial))
                      have HCG2 := Lib.hid (HCG.out.trans hc2)
                      obtain ⟨va, vc, ev⟩ := HR2.out.val
                      rw [List.length_append, HM.out, List.length_singleton] at ev
                      subst ev
                      clear hown hc2
                      go_wp2
                      go_roundw
                      case rel => exact ⟨q + 1, cl ++ [(q : Int)], by go_num, HQK.out, by simp only [List.length_append, HM.out]; have := HAM.out; omega, HC2, HR2, HCG2⟩
                      case measure => have := HQK.out; simp [intOf]; omega
                · have hq1 : ¬ (q : Int) < k := by omega
                  have HC2 := Lib.hid (HCO.out.row (by rw [← HKL.out]; omega))
                  clear hq hqk d0 d1
                  have hab := HAM.out
                  go_wp2
                  go_roundw
                  case rel => exact ⟨a + 1, cl, by go_num, by rw [HM.out]; exact HAM.out.1, HC2, HRD, HCG⟩
                  case measure => have := HAM.out; simp [intOf]; omega
            · have ham : a = m := by omega
              subst ham
              have ha1 : ¬ (a : Int) < a := by omega
              have HC2 : Hid (Come l cl.length 0 cl) := Lib.hid (by rw [HM.out]; exact HCO.out)
              have HF := Lib.hid (HC2.out.fin HLT.out (by rw [← HKL.out]; exact HK5.out.1))
              rw [HM.out, ← HKL.out] at HF
              clear ha hal
              by_cases hak : a < k
              · have HE : Hid (checkErr l = 3) := Lib.hid (by
                  rw [HEE.out, if_neg (by rw [HMA.out]; simp), if_neg (by rw [HCA.out]; simp), if_pos (HF.out.1 hak)])
                have hb : (a : Int) < k := by omega
                clear hak
                go_wp2
                go_ret
                exact ⟨by rw [HE.out]; try rfl, HCG.out⟩
              · have HE : Hid (checkErr l = 0) := Lib.hid (by
                  rw [HEE.out, if_neg (by rw [HMA.out]; simp), if_neg (by rw [HCA.out]; simp), if_neg (fun h => hak (HF.out.2 h))])
                have hb : ¬ (a : Int) < k := by omega
                clear hak
                go_wp2
                go_ret
                exact ⟨by rw [HE.out]; try rfl, HCG.out⟩

end Go.Proofs.YtckgkgaoioigdaaDoor
