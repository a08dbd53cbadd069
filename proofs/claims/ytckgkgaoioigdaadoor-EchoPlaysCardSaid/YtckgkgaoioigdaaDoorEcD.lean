/-
  The wave that comes back: what is wrong with who is near whom.
  Conditions: the sets are read as a list of integers.
-/
import Derived.Test.YtckgkgaoioigdaaDoorEcC
import Derived.Test.YtckgkgaoioigdaaDoorEcMath4
namespace Go.Proofs.YtckgkgaoioigdaaDoor
open Go Go.RowKit

set_option maxHeartbeats 8000000 in
set_option maxRecDepth 100000 in
theorem check_any (S : Nat → Prop) (v : Value) (l : List Int) (w : World) (hr : Rd S w v l) (hlb : l.length ≤ 9223372036854775807) :
    Calls Tryd.prog 7 #[v] w fun e w' => e = .returned (errV (checkErr l)) ∧ w = w' := by
  by_cases h0 : l.length = 0
  · have hE : Hid (checkErr l = 5) := Lib.hid (by unfold checkErr; rw [if_pos h0])
    obtain ⟨pa, ca, rfl⟩ := hr.val
    rw [h0]
    clear hr hlb h0
    go_enter Tryd.func7, Tryd.ntmps7
    go_wp2
    go_ret
    exact ⟨by rw [hE.out]; rfl, rfl⟩
  by_cases h5 : 5 < l.length
  · have hE : Hid (checkErr l = 4) := Lib.hid (by unfold checkErr; rw [if_neg h0, if_pos h5])
    obtain ⟨pa, ca, rfl⟩ := hr.val
    have hz : ((l.length : Int) == 0) = false := by rw [beq_eq_false_iff_ne]; omega
    have h5i : (5 : Int) < l.length := by omega
    clear hr h0
    go_enter Tryd.func7, Tryd.ntmps7
    go_wp2
    go_ret
    exact ⟨by rw [hE.out]; rfl, rfl⟩
  obtain ⟨b, off, c, rfl, _, hcell⟩ := hr.form (by omega)
  have HC := Lib.hid hcell
  have HEE : Hid (checkErr l = if (List.range l.length).any (fun i => !maskB l i) = true then 1 else if (List.range l.length).any (fun i => (List.range l.length).any fun j => clashB l i j) = true then 6 else if reachN l l.length ≠ 2 ^ l.length - 1 then 3 else 0) := Lib.hid (by
    unfold checkErr; rw [if_neg h0, if_neg h5])
  obtain ⟨n, hN⟩ : ∃ n, Hid (l.length = n) := ⟨_, Lib.hid rfl⟩
  have hz : ((l.length : Int) == 0) = false := by rw [beq_eq_false_iff_ne]; omega
  have h5i : ¬ (5 : Int) < l.length := by omega
  rw [hN.out] at HEE HC hz h5i h0 h5 ⊢
  have hn1 : 1 ≤ n := by omega
  have hn5 : n ≤ 5 := by omega
  have HMK : ∀ i, Hid (maskB l i = (decide (0 ≤ l.getD i 0) && decide (l.getD i 0 < ((2 ^ n : Nat) : Int)))) := fun i => Lib.hid (by unfold maskB; rw [hN.out])
  have HMK := Lib.hid HMK
  clear hr hcell h0 h5 hlb
  go_enter Tryd.func7, Tryd.ntmps7
  go_wp2_with fail
  clear hz h5i
  go_loop [21] (fun i => ∃ k : Nat, k ≤ n ∧ i = .int .i64 k ∧ Hid (∀ j, j < k → maskB l j = true)) (fun i => n - (intOf i).toNat)
  case atStart => exact ⟨0, Nat.zero_le _, rfl, Lib.hid fun j hj => by omega⟩
  case round =>
    obtain ⟨k, hkn, rfl, HB⟩ := hrel
    by_cases hlt : k < n
    · obtain ⟨x, HX⟩ : ∃ x, Hid (l.getD k 0 = x) := ⟨_, Lib.hid rfl⟩
      have d0 : w.cell? ⟨b, off + k, none⟩ = some (.int .i64 x) := by rw [HC.out k hlt, HX.out]
      have hk1 : (k : Int) < n := by omega
      have HM2 := Lib.hid ((HMK.out k).out)
      rw [HX.out] at HM2
      cases hin : maskB l k with
      | false =>
        rw [hin] at HM2
        have hE : Hid (checkErr l = 1) := Lib.hid (by rw [HEE.out, if_pos (any_true (i := k) hlt (by rw [hin]; rfl))])
        clear hin
        go_wp2_with fail
        refine (mask_any x n hn5 w).mono ?_
        rintro e w' ⟨rfl, rfl⟩
        rw [← HM2.out]
        go_wp2
        go_ret
        exact ⟨by rw [hE.out]; rfl, rfl⟩
      | true =>
        rw [hin] at HM2
        have HB' : Hid (∀ j, j < k + 1 → maskB l j = true) := Lib.hid fun j hj => by
          by_cases e : j = k
          · subst e; exact hin
          · exact HB.out j (by omega)
        clear hin
        go_wp2_with fail
        refine (mask_any x n hn5 w).mono ?_
        rintro e w' ⟨rfl, rfl⟩
        rw [← HM2.out]
        go_wp2
        go_round
        case rel => exact ⟨k + 1, by omega, by go_num, HB'⟩
        case measure => simp [intOf]; omega
    · obtain rfl : k = n := by omega
      have hk1 : ¬ (k : Int) < k := by omega
      have HMA : Hid ((List.range k).any (fun i => !maskB l i) = false) := Lib.hid (any_none fun i hi => by rw [HB.out i hi]; rfl)
      have HNL : Hid (∀ i, i < k → nearOf l i < 2 ^ 40 ∧ l.getD i 0 = (nearOf l i : Int)) := Lib.hid fun i hi => by
        have h := near_lt (HB.out i hi)
        rw [hN.out] at h
        exact ⟨Nat.lt_of_lt_of_le h.1 (Nat.pow_le_pow_right (by omega) (by omega)), h.2⟩
      have HLT : Hid (∀ i, i < l.length → nearOf l i < 2 ^ l.length) := Lib.hid fun i hi => (near_lt (HB.out i (by rw [← hN.out]; exact hi))).1
      have HCN : Hid (∀ i, i < k → w.cell? ⟨b, off + i, none⟩ = some (.int .i64 (nearOf l i))) := Lib.hid fun i hi => by rw [HC.out i hi, (HNL.out i hi).2]
      clear hlt HB
      go_wp2_with fail
      clear hk1
      go_loop [33] (fun i => ∃ p : Nat, p ≤ k ∧ i = .int .i64 p ∧ Hid (∀ i j, i < p → j < k → clashB l i j = false)) (fun i => k - (intOf i).toNat)
      case atStart => exact ⟨0, Nat.zero_le _, rfl, Lib.hid fun i j hi => by omega⟩
      case round =>
        obtain ⟨p, hpk, rfl, HB⟩ := hrel
        by_cases hp : p < k
        · have hp1 : (p : Int) < k := by omega
          have dp := HCN.out p hp
          obtain ⟨np, HNP⟩ : ∃ x, Hid (nearOf l p = x) := ⟨_, Lib.hid rfl⟩
          have hnp := (HNL.out p hp).1
          rw [HNP.out] at dp hnp
          have HPK : Hid (p + 1 ≤ k) := Lib.hid hp
          go_wp2_with fail
          clear dp
          go_loop [39] (fun i => ∃ q : Nat, q ≤ k ∧ i = .int .i64 q ∧ Hid (∀ j, j < q → clashB l p j = false)) (fun i => k - (intOf i).toNat)
          case atStart => exact ⟨0, Nat.zero_le _, rfl, Lib.hid fun j hj => by omega⟩
          case round =>
            obtain ⟨q, hqk, rfl, HQ⟩ := hrel
            by_cases hq : q < k
            · have hq1 : (q : Int) < k := by omega
              have HQK : Hid (q + 1 ≤ k) := Lib.hid hq
              have dq := HCN.out q hq
              obtain ⟨nq, HNQ⟩ : ∃ x, Hid (nearOf l q = x) := ⟨_, Lib.hid rfl⟩
              have hnq := (HNL.out q hq).1
              rw [HNQ.out] at dq hnq
              have HCL : Hid (clashB l p q = (np.testBit q && (decide (p = q) || !(nq.testBit p)))) := Lib.hid (by unfold clashB; rw [HNP.out, HNQ.out])
              have HN' : clashB l p q = false → Hid (∀ j, j < q + 1 → clashB l p j = false) := fun h => Lib.hid fun j hj => by
                by_cases e : j = q
                · subst e; exact h
                · exact HQ.out j (by omega)
              have HY : clashB l p q = true → Hid (checkErr l = 6) := fun h => Lib.hid (by
                rw [HEE.out, if_neg (by rw [HMA.out]; simp), if_pos (any_true (i := p) hp (any_true (i := q) hq h))])
              have HNN := Lib.hid HN'
              have HYY := Lib.hid HY
              clear HN' HY HQ
              cases h1 : np.testBit q with
              | false =>
                have HB2 := HNN.out (by rw [HCL.out, h1]; rfl)
                have H1 := Lib.hid h1
                clear h1
                go_wp2_with fail
                refine (has_any np q hnp (by omega) w).mono ?_
                rintro e w' ⟨rfl, rfl⟩
                rw [H1.out]
                go_wp2
                go_round
                case rel => exact ⟨q + 1, HQK.out, by go_num, HB2⟩
                case measure => have := HQK.out; simp [intOf]; omega
              | true =>
                have H1 := Lib.hid h1
                by_cases hpq : p = q
                · have HE := HYY.out (by rw [HCL.out, h1, decide_eq_true hpq]; rfl)
                  have hb : ((p : Int) == q) = true := by rw [hpq]; simp
                  clear h1 hpq
                  go_wp2_with fail
                  refine (has_any np q hnp (by omega) w).mono ?_
                  rintro e w' ⟨rfl, rfl⟩
                  rw [H1.out]
                  go_wp2
                  go_ret
                  exact ⟨by rw [HE.out]; rfl, rfl⟩
                · have hb : ((p : Int) == q) = false := by rw [beq_eq_false_iff_ne]; omega
                  cases h2 : nq.testBit p with
                  | false =>
                    have HE := HYY.out (by rw [HCL.out, h1, h2]; simp)
                    have H2 := Lib.hid h2
                    clear h1 hpq h2
                    go_wp2_with fail
                    refine (has_any np q hnp (by omega) w).mono ?_
                    rintro e w' ⟨rfl, rfl⟩
                    rw [H1.out]
                    go_wp2_with fail
                    refine (has_any nq p hnq (by omega) w).mono ?_
                    rintro e w' ⟨rfl, rfl⟩
                    rw [H2.out]
                    go_wp2
                    go_ret
                    exact ⟨by rw [HE.out]; rfl, rfl⟩
                  | true =>
                    have HB2 := HNN.out (by rw [HCL.out, h1, h2, decide_eq_false hpq]; rfl)
                    have H2 := Lib.hid h2
                    clear h1 hpq h2
                    go_wp2_with fail
                    refine (has_any np q hnp (by omega) w).mono ?_
                    rintro e w' ⟨rfl, rfl⟩
                    rw [H1.out]
                    go_wp2_with fail
                    refine (has_any nq p hnq (by omega) w).mono ?_
                    rintro e w' ⟨rfl, rfl⟩
                    rw [H2.out]
                    go_wp2
                    go_round
                    case rel => exact ⟨q + 1, HQK.out, by go_num, HB2⟩
                    case measure => have := HQK.out; simp [intOf]; omega
            · have hq1 : ¬ (q : Int) < k := by omega
              have HB2 : Hid (∀ i j, i < p + 1 → j < k → clashB l i j = false) := Lib.hid fun i j hi hj => by
                by_cases e : i = p
                · subst e; exact HQ.out j (by omega)
                · exact HB.out i j (by omega) hj
              go_wp2
              go_round
              case rel => exact ⟨p + 1, HPK.out, by go_num, HB2⟩
              case measure => have := HPK.out; simp [intOf]; omega
        · have hp1 : ¬ (p : Int) < k := by omega
          have HCA : Hid ((List.range k).any (fun i => (List.range k).any fun j => clashB l i j) = false) := Lib.hid (any_none fun i hi => any_none fun j hj => HB.out i j (by omega) hj)
          have hkk : (0 : Int) ≤ k := by omega
          clear hp HB
          go_wp2_with fail
          go_loop [63, 9] (fun i r => ∃ a : Nat, a ≤ k ∧ i = .int .i64 a ∧ r = .int .i64 (reachN l a)) (fun i _ => k - (intOf i).toNat)
          case atStart => exact ⟨0, Nat.zero_le _, rfl, rfl⟩
          case round =>
            obtain ⟨a, hak, rfl, rfl⟩ := hrel
            obtain ⟨ra, HRA⟩ : ∃ x, Hid (reachN l a = x) := ⟨_, Lib.hid rfl⟩
            have HRL : Hid (ra < 2 ^ l.length) := Lib.hid (by rw [← HRA.out]; exact reachN_lt HLT.out (by rw [hN.out]; omega) a)
            rw [HRA.out]
            by_cases ha : a < k
            · have ha1 : (a : Int) < k := by omega
              have HAK : Hid (a + 1 ≤ k) := Lib.hid ha
              go_wp2_with fail
              go_loop [66, 9] (fun i r => ∃ q : Nat, q ≤ k ∧ i = .int .i64 q ∧ r = .int .i64 (reach1 l ra q)) (fun i _ => k - (intOf i).toNat)
              case atStart => exact ⟨0, Nat.zero_le _, rfl, rfl⟩
              case round =>
                obtain ⟨q, hqk, rfl, rfl⟩ := hrel
                obtain ⟨rq, HRQ⟩ : ∃ x, Hid (reach1 l ra q = x) := ⟨_, Lib.hid rfl⟩
                have hrq : rq < 2 ^ 40 := by
                  rw [← HRQ.out]
                  exact Nat.lt_of_lt_of_le (reach1_lt HLT.out HRL.out q (by rw [hN.out]; exact hqk)) (Nat.pow_le_pow_right (by omega) (by rw [hN.out]; omega))
                rw [HRQ.out]
                by_cases hq : q < k
                · have hq1 : (q : Int) < k := by omega
                  have HQK : Hid (q + 1 ≤ k) := Lib.hid hq
                  have dq := HCN.out q hq
                  obtain ⟨nq, HNQ⟩ : ∃ x, Hid (nearOf l q = x) := ⟨_, Lib.hid rfl⟩
                  have hnq := (HNL.out q hq).1
                  rw [HNQ.out] at dq hnq
                  have HST : Hid (reach1 l ra (q + 1) = if rq.testBit q = true then rq ||| nq else rq) := Lib.hid (by rw [reach1, HRQ.out, HNQ.out])
                  have hor := bits_or_nat rq nq hrq hnq
                  cases h1 : rq.testBit q with
                  | false =>
                    have HE : Hid (reach1 l ra (q + 1) = rq) := Lib.hid (by rw [HST.out, h1]; rfl)
                    have H1 := Lib.hid h1
                    clear h1 hor
                    go_wp2_with fail
                    refine (has_any rq q hrq (by omega) w).mono ?_
                    rintro e w' ⟨rfl, rfl⟩
                    rw [H1.out]
                    go_wp2
                    go_round
                    case rel => exact ⟨q + 1, HQK.out, by go_num, by rw [HE.out]⟩
                    case measure => have := HQK.out; simp [intOf]; omega
                  | true =>
                    have HE : Hid (reach1 l ra (q + 1) = rq ||| nq) := Lib.hid (by rw [HST.out, h1]; rfl)
                    have H1 := Lib.hid h1
                    obtain ⟨ro, HRO⟩ : ∃ x, Hid (rq ||| nq = x) := ⟨_, Lib.hid rfl⟩
                    rw [HRO.out] at hor HE
                    clear h1
                    go_wp2_with fail
                    refine (has_any rq q hrq (by omega) w).mono ?_
                    rintro e w' ⟨rfl, rfl⟩
                    rw [H1.out]
                    go_wp2
                    go_round
                    case rel => exact ⟨q + 1, HQK.out, by go_num, by rw [HE.out]⟩
                    case measure => have := HQK.out; simp [intOf]; omega
                · obtain rfl : q = k := by omega
                  have hq1 : ¬ (q : Int) < q := by omega
                  have HE : Hid (reachN l (a + 1) = rq) := Lib.hid (by rw [reachN, HRA.out, hN.out, HRQ.out])
                  go_wp2
                  go_round
                  case rel => exact ⟨a + 1, HAK.out, by go_num, by rw [HE.out]⟩
                  case measure => have := HAK.out; simp [intOf]; omega
            · obtain rfl : a = k := by omega
              have ha1 : ¬ (a : Int) < a := by omega
              obtain ⟨m, HM⟩ : ∃ m : Nat, Hid (2 ^ a = m) := ⟨_, Lib.hid rfl⟩
              have hsh := shl_nat a (by omega)
              rw [HM.out] at hsh
              have hm1 : 1 ≤ m := by rw [← HM.out]; exact Nat.one_le_two_pow
              have hm2 : m ≤ 2 ^ 40 := by rw [← HM.out]; exact Nat.pow_le_pow_right (by omega) (by omega)
              have hsub : wrap64 ((m : Int) - 1) = ((m - 1 : Nat) : Int) := by rw [IntWalk.wrap64_in _ (by omega)]; omega
              by_cases hra : ra = m - 1
              · have HE : Hid (checkErr l = 0) := Lib.hid (by
                  rw [HEE.out, if_neg (by rw [HMA.out]; simp), if_neg (by rw [HCA.out]; simp), if_neg (by rw [HRA.out, HM.out]; exact fun h => h hra)])
                have hb : ((ra : Int) != ((m - 1 : Nat) : Int)) = false := by rw [hra]; simp
                have HB := Lib.hid hb
                clear hra hb
                have hb := HB.out
                go_wp2
                go_ret
                exact ⟨by rw [HE.out]; rfl, rfl⟩
              · have HE : Hid (checkErr l = 3) := Lib.hid (by
                  rw [HEE.out, if_neg (by rw [HMA.out]; simp), if_neg (by rw [HCA.out]; simp), if_pos (by rw [HRA.out, HM.out]; exact hra)])
                have hb : ((ra : Int) != ((m - 1 : Nat) : Int)) = true := by rw [bne_iff_ne]; omega
                clear hra
                go_wp2
                go_ret
                exact ⟨by rw [HE.out]; rfl, rfl⟩

end Go.Proofs.YtckgkgaoioigdaaDoor
