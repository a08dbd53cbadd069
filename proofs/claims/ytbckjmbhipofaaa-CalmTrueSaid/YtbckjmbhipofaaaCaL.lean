/-
  The walk of CalmTrue: who says that all is done is right; who works, or is owed, was woken by one who waits, up to node 0.
  Conditions: the steps are read as lists of integers.
-/
import Derived.Test.YtbckjmbhipofaaaCaJ
import Derived.Test.YtbckjmbhipofaaaBit
namespace Go.Proofs.Ytbckjmbhipofaaa
open Go Go.RowKit

theorem wbits_bit (f : Nat → Bool) : ∀ {n i : Nat}, i < n → bitB (wbits f n) i = f i
  | n + 1, i, h => by
    unfold bitB
    rw [wbits]
    by_cases e : i = n
    · subst e
      have hlt := wbits_lt f i
      by_cases hf : f i = true
      · rw [if_pos hf, Nat.add_div_right _ (Nat.pow_pos (by omega)), Nat.div_eq_of_lt hlt, hf]; rfl
      · rw [if_neg hf, Nat.add_zero, Nat.div_eq_of_lt hlt]
        have : f i = false := by simpa using hf
        rw [this]; rfl
    · have ih := wbits_bit f (n := n) (i := i) (by omega)
      unfold bitB at ih
      rw [← ih]
      congr 1
      split
      · have e2 : 2 ^ n = 2 ^ i * 2 * 2 ^ (n - i - 1) := by
          rw [← Nat.pow_succ, ← Nat.pow_add]; congr 1; omega
        have e3 : (wbits f n + 2 ^ n) / 2 ^ i = wbits f n / 2 ^ i + 2 * 2 ^ (n - i - 1) := by
          rw [e2, Nat.mul_assoc, Nat.add_mul_div_left _ _ (Nat.pow_pos (by omega))]
        rw [e3, Nat.add_mul_mod_self_left]
      · rfl

/-- Up so often along who woke whom. -/
def upN (s : CNet) (p : Nat) : Nat → Nat
  | 0 => p
  | k + 1 => if upN s p k = 0 then 0 else (s.parent (upN s p k)).toNat

theorem up_zero (s : CNet) (p : Nat) {k : Nat} (h : upN s p k = 0) : ∀ j, k ≤ j → upN s p j = 0 := by
  intro j hj
  induction j with
  | zero => obtain rfl : k = 0 := by omega
            exact h
  | succ j ih =>
    by_cases e : k = j + 1
    · subst e; exact h
    · rw [upN, if_pos (ih (by omega))]

theorem up_in {s : CNet} (h : CInv s) {p : Nat} (hp : p < s.n) (he : 0 ≤ s.parent p) : ∀ k, upN s p k < s.n ∧ (upN s p k = 0 ∨ 0 ≤ s.parent (upN s p k)) := by
  obtain ⟨r, hr⟩ := h.rank
  intro k
  induction k with
  | zero => exact ⟨hp, .inr he⟩
  | succ k ih =>
    rw [upN]
    by_cases e : upN s p k = 0
    · rw [if_pos e]; exact ⟨h.n1, .inl rfl⟩
    · rw [if_neg e]
      rcases ih.2 with h1 | h1
      · exact absurd h1 e
      · have h2 := (hr _ ih.1 e h1).1
        have h3 := h.par _ ih.1
        refine ⟨by omega, ?_⟩
        rcases h2 with h2 | h2
        · left; omega
        · right; exact h2

theorem up_end {s : CNet} (h : CInv s) {p : Nat} (hp : p < s.n) (he : 0 ≤ s.parent p) : upN s p s.n = 0 := by
  refine Classical.byContradiction fun hn => ?_
  obtain ⟨r, hr⟩ := h.rank
  have hne : ∀ k, k ≤ s.n → upN s p k ≠ 0 := fun k hk h0 => hn (up_zero s p h0 s.n hk)
  have hdec : ∀ d k, k + d ≤ s.n → d ≠ 0 → r (upN s p (k + d)) < r (upN s p k) := by
    intro d
    induction d with
    | zero => intro k _ h; exact absurd rfl h
    | succ d ih =>
      intro k hk _
      have hin := up_in h hp he (k + d)
      have h0 := hne (k + d) (by omega)
      have h1 : r (upN s p (k + (d + 1))) < r (upN s p (k + d)) := by
        show r (upN s p ((k + d) + 1)) < _
        rw [upN, if_neg h0]
        rcases hin.2 with h2 | h2
        · exact absurd h2 h0
        · exact (hr _ hin.1 h0 h2).2
      by_cases e : d = 0
      · subst e; exact h1
      · have := ih k (by omega) e; omega
  have hnd : ((List.range (s.n + 1)).map (upN s p)).Nodup := by
    rw [List.nodup_iff_pairwise_ne, List.pairwise_map]
    refine List.Pairwise.imp_of_mem ?_ List.pairwise_lt_range
    intro a b ha hb hab e
    have hb' := List.mem_range.1 hb
    have := hdec (b - a) a (by omega) (by omega)
    rw [show a + (b - a) = b by omega, e] at this
    omega
  have := nodup_le s.n _ hnd (fun x hx => by
    obtain ⟨k, _, rfl⟩ := List.mem_map.1 hx
    exact (up_in h hp he k).1)
  rw [List.length_map, List.length_range] at this
  omega

theorem CRel.keep {w wr wr' : World} {t g n : Nat} {s : CNet} (h : CRel w wr t g n s) (hc : Chg NoF wr wr') : CRel w wr' t g n s := ⟨h.1, h.2.1, h.2.2.1.keep hc, h.2.2.2.trans hc.ofNo⟩

set_option maxHeartbeats 8000000 in
set_option maxRecDepth 100000 in
theorem true_walk (n : Int) (v : Value) (ll : List (List Int)) (w : World) (hr : Rd2 (fun k => k < w.heap.size) w v ll) (hlb : ll.length ≤ 9223372036854775807) :
    Calls Try.prog 5 #[.int .i64 n, v] w fun e w' => e = .returned (.bool true) ∧ Chg (NewB w) w w' := by
  have HR := Lib.hid hr
  clear hr
  go_enter Try.func5, Try.ntmps5
  go_wp2_with fail
  refine (calmFact_any w).mono ?_
  rintro e w1 ⟨rfl, hc1⟩
  go_wp2_with fail
  refine (new_any n w1).mono ?_
  rintro e w2 ⟨hc2, hnew⟩
  have HC1 := Lib.hid hc1
  have HC2 := Lib.hid hc2
  clear hc1 hc2
  rcases hnew with ⟨hbad, rfl⟩ | ⟨k, rfl, hk1, hk5, t, g, rfl, hin⟩
  · have hb : decide (n < 1) = true ∨ (decide (n < 1) = false ∧ decide (5 < n) = true) := by
      rcases Bool.and_eq_false_iff.1 hbad with h | h
      · left; rw [decide_eq_true_eq]; have := of_decide_eq_false h; omega
      · by_cases h1 : n < 1
        · left; rw [decide_eq_true_eq]; exact h1
        · right; rw [decide_eq_true_eq, decide_eq_false_iff_not]; have := of_decide_eq_false h; omega
    rw [show errV 1 = .iface 40 (.int .i64 1) from rfl]
    clear hbad
    rcases hb with hb | ⟨hb1, hb2⟩
    · go_wp2
      go_ret
      exact ⟨rfl, (HC1.out.trans HC2.out).ofNo⟩
    · go_wp2
      go_ret
      exact ⟨rfl, (HC1.out.trans HC2.out).ofNo⟩
  have HREL : Hid (CRel w w2 t g k (CNet.init k)) := Lib.hid ⟨CBnd.start hk1 hk5, rfl, hin.mono (fun b hb => Nat.lt_of_lt_of_le hb HC1.out.size), (HC1.out.trans HC2.out).ofNo⟩
  clear hin
  obtain ⟨pv, cv, rfl⟩ := HR.out.val
  obtain ⟨sl, hSL⟩ : ∃ sl, Hid (ll.length = sl) := ⟨_, Lib.hid rfl⟩
  rw [hSL.out] at hlb HR ⊢
  go_wp2_with fail
  go_loopw [8] (fun i wr => ∃ j : Nat, j ≤ sl ∧ j ≤ 200 ∧ i = .int .i64 j ∧ ∃ s, Hid (CRel w wr t g k s)) (fun i _ => 200 - (intOf i).toNat)
  case atStart => exact ⟨0, Nat.zero_le _, Nat.zero_le _, rfl, _, HREL⟩
  case round =>
    obtain ⟨j, hjsl, hj200, rfl, s, HS⟩ := hrel
    by_cases hlt : j < sl ∧ j < 200
    · obtain ⟨hlt1, hlt2⟩ := hlt
      obtain ⟨b, off, c, u, e1, hcell, hrow, hrl⟩ := HR.out.at HS.out.2.2.2 (fun b hb hn => hn hb) (j := j) (by rw [hSL.out]; exact hlt1)
      simp only [Value.slice.injEq] at e1
      obtain ⟨rfl, -, rfl⟩ := e1
      have hj1 : (j : Int) < sl := by omega
      have hj2 : (j : Int) < 200 := by omega
      have HA := Lib.hid (acts_any _ _ t g s HS.out.2.2.1 HS.out.1.sane u _ hrow hrl)
      have HJ : Hid (j < sl ∧ j < 200) := Lib.hid ⟨hlt1, hlt2⟩
      clear hrow hrl
      go_wp2_with fail
      refine HA.out.mono ?_
      rintro e wa ⟨rfl, hin, hc⟩
      obtain ⟨s2, HS2, HZ⟩ : ∃ s2, Hid (s.act (ll.getD j []) = s2) ∧ Hid (CRel w wa t g k s2) := ⟨_, Lib.hid rfl, Lib.hid (HS.out.act _ hin hc)⟩
      clear hin hc HA hcell
      have HCA := Lib.hid (calm_any _ _ t g s2 HZ.out.2.2.1)
      obtain ⟨cm, hCM⟩ : ∃ cm, Hid (s2.calm = cm) := ⟨_, Lib.hid rfl⟩
      rw [hCM.out] at HCA
      go_wp2_with fail
      refine HCA.out.mono ?_
      rintro e w' ⟨rfl, rfl⟩
      clear HCA
      cases cm
      case' false =>
        go_wp2_with fail
      case' true =>
        have HWO := Lib.hid (works_any _ _ t g s2 HZ.out.2.2.1 HZ.out.1.inv.n1 HZ.out.1.inv.n5)
        rw [wbits_zero (HZ.out.1.inv.calmed hCM.out).1] at HWO
        go_wp2_with fail
        refine HWO.out.mono ?_
        rintro e w' ⟨rfl, hc⟩
        replace HZ := Lib.hid (HZ.out.keep hc)
        clear hc HWO
        go_wp2_with fail
      all_goals
        go_loopw [9] (fun i wr => ∃ p : Nat, p ≤ k ∧ i = .int .i64 p ∧ Hid (CRel w wr t g k s2)) (fun i _ => k - (intOf i).toNat)
        case atStart => exact ⟨0, Nat.zero_le _, rfl, HZ⟩
        case round =>
          clear HZ
          obtain ⟨p, hpk, rfl, HZ⟩ := hrel
          by_cases hp : p < k
          · have hp1 : (p : Int) < k := by omega
            go_wp2_with fail
            go_loopw [10] (fun i wr => ∃ q : Nat, q ≤ k ∧ i = .int .i64 q ∧ Hid (CRel w wr t g k s2)) (fun i _ => k - (intOf i).toNat)
            case atStart => exact ⟨0, Nat.zero_le _, rfl, HZ⟩
            case round =>
              clear HZ
              obtain ⟨q, hqk, rfl, HZ⟩ := hrel
              by_cases hq : q < k
              · have hq1 : (q : Int) < k := by omega
                have HCA := Lib.hid (calm_any _ _ t g s2 HZ.out.2.2.1)
                by_cases hcm : s2.calm = true
                · rw [hcm] at HCA
                  have HWY := Lib.hid (way_any _ _ t g s2 HZ.out.2.2.1 HZ.out.1.sane p q)
                  have hwe : s2.wayOf p q = [] := by
                    unfold CNet.wayOf; split
                    · rw [Int.toNat_natCast, Int.toNat_natCast]; exact (HZ.out.1.inv.calmed hcm).2 p q (by rw [HZ.out.2.1]; exact hp) (by rw [HZ.out.2.1]; exact hq)
                    · rfl
                  rw [hwe] at HWY
                  clear hcm hwe
                  go_wp2_with fail
                  refine HCA.out.mono ?_
                  rintro e w' ⟨rfl, rfl⟩
                  go_wp2_with fail
                  refine HWY.out.mono ?_
                  rintro e w' ⟨v', rfl, hrd, hc⟩
                  obtain ⟨va, vc, rfl⟩ := hrd.val
                  have HZ2 := Lib.hid (HZ.out.keep hc)
                  clear hrd hc HWY HCA
                  go_wp2
                  go_roundw
                  case rel => exact ⟨q + 1, by omega, by go_num, HZ2⟩
                  case measure => simp [intOf]; omega
                · rw [Bool.eq_false_iff.2 hcm] at HCA
                  clear hcm
                  go_wp2_with fail
                  refine HCA.out.mono ?_
                  rintro e w' ⟨rfl, rfl⟩
                  clear HCA
                  go_wp2
                  go_roundw
                  case rel => exact ⟨q + 1, by omega, by go_num, HZ⟩
                  case measure => simp [intOf]; omega
              · have hq1 : ¬ (q : Int) < k := by omega
                have HN := Lib.hid (node_any _ _ t g s2 HZ.out.2.2.1 HZ.out.1.inv.n1 p)
                have hps : p < s2.n := by rw [HZ.out.2.1]; exact hp
                have hip : s2.is p = true := (s2.is_iff p).2 ⟨p, rfl, hps⟩
                have hna : s2.nodeAt p = s2.parent p := by unfold CNet.nodeAt; rw [if_pos hip, Int.toNat_natCast]
                have hno : s2.nodeOwed p = s2.owed p := by unfold CNet.nodeOwed; rw [if_pos hip, Int.toNat_natCast]
                rw [hna, hno] at HN
                have how : 0 ≤ s2.owed p := by rw [HZ.out.1.inv.owe p hps]; exact dues_nonneg _ _
                have hen : (s2.works p = true ∨ 0 < s2.owed p) → 0 ≤ s2.parent p := by
                  by_cases e : p = 0
                  · subst e; rw [HZ.out.1.inv.par0]; intro _; omega
                  · exact (HZ.out.1.inv.eng p hps e).2
                obtain ⟨pa, HPA⟩ : ∃ x, Hid (s2.parent p = x) := ⟨_, Lib.hid rfl⟩
                obtain ⟨ow, HOW⟩ : ∃ x, Hid (s2.owed p = x) := ⟨_, Lib.hid rfl⟩
                obtain ⟨wk, HWK⟩ : ∃ x, Hid (s2.works p = x) := ⟨_, Lib.hid rfl⟩
                rw [HPA.out, HOW.out] at HN hen
                rw [HOW.out] at how
                rw [HWK.out] at hen
                have HUP : Hid (0 ≤ pa → ∀ j, upN s2 p j < k ∧ (upN s2 p j = 0 ∨ 0 ≤ s2.parent (upN s2 p j))) := Lib.hid fun h j => by
                  have := up_in HZ.out.1.inv hps (by rw [HPA.out]; exact h) j
                  rw [HZ.out.2.1] at this; exact this
                have HEND : Hid (0 ≤ pa → upN s2 p k = 0) := Lib.hid fun h => by
                  have := up_end HZ.out.1.inv hps (by rw [HPA.out]; exact h)
                  rw [HZ.out.2.1] at this; exact this
                have HEN := Lib.hid hen
                have HHP := Lib.hid hp
                clear hps hip hna hno hen
                go_wp2_with fail
                refine HN.out.mono ?_
                rintro e w' ⟨rfl, hc⟩
                replace HZ := Lib.hid (HZ.out.keep hc)
                clear hc HN
                have hcase : 0 < ow ∨ (ow = 0 ∧ wk = true) ∨ (ow = 0 ∧ wk = false) := by
                  cases wk
                  · by_cases h : 0 < ow
                    · exact .inl h
                    · exact .inr (.inr ⟨by omega, rfl⟩)
                  · by_cases h : 0 < ow
                    · exact .inl h
                    · exact .inr (.inl ⟨by omega, rfl⟩)
                rcases hcase with ho | ⟨ho, hw⟩ | ⟨ho, hw⟩
                case' inl =>
                  have hpa0 : ¬ pa < 0 := by have := HEN.out (.inr ho); omega
                  go_wp2_with fail
                case' inr.inl =>
                  subst ho
                  have hpa0 : ¬ pa < 0 := by have := HEN.out (.inl hw); omega
                  have hwb : wbits s2.works s2.n < 2 ^ s2.n := wbits_lt _ _
                  have hw32 : (2 : Nat) ^ s2.n ≤ 2 ^ 5 := Nat.pow_le_pow_right (by omega) HZ.out.1.inv.n5
                  have HWO := Lib.hid (fun wr (hin : CIn (fun b => b < w.heap.size) wr t g s2) => works_any _ wr t g s2 hin HZ.out.1.inv.n1 HZ.out.1.inv.n5)
                  have HBT := Lib.hid (fun wr => bit_any (wbits s2.works s2.n) p (by omega) (by omega) wr)
                  rw [wbits_bit s2.works (by rw [HZ.out.2.1]; exact hp), HWK.out, hw] at HBT
                  obtain ⟨x, HX⟩ : ∃ x, Hid (wbits s2.works s2.n = x) := ⟨_, Lib.hid rfl⟩
                  rw [HX.out] at HWO HBT
                  clear hwb hw32 hw
                  go_wp2_with fail
                  refine (HWO.out _ HZ.out.2.2.1).mono ?_
                  rintro e w' ⟨rfl, hc⟩
                  replace HZ := Lib.hid (HZ.out.keep hc)
                  clear hc
                  go_wp2_with fail
                  refine (HWO.out _ HZ.out.2.2.1).mono ?_
                  rintro e w' ⟨rfl, hc⟩
                  replace HZ := Lib.hid (HZ.out.keep hc)
                  clear hc HWO
                  go_wp2_with fail
                  refine (HBT.out _).mono ?_
                  rintro e w' ⟨rfl, rfl⟩
                  clear HBT
                  go_wp2_with fail
                case' inr.inr =>
                  subst ho
                  have hwb : wbits s2.works s2.n < 2 ^ s2.n := wbits_lt _ _
                  have hw32 : (2 : Nat) ^ s2.n ≤ 2 ^ 5 := Nat.pow_le_pow_right (by omega) HZ.out.1.inv.n5
                  have HWO := Lib.hid (fun wr (hin : CIn (fun b => b < w.heap.size) wr t g s2) => works_any _ wr t g s2 hin HZ.out.1.inv.n1 HZ.out.1.inv.n5)
                  have HBT := Lib.hid (fun wr => bit_any (wbits s2.works s2.n) p (by omega) (by omega) wr)
                  rw [wbits_bit s2.works (by rw [HZ.out.2.1]; exact hp), HWK.out, hw] at HBT
                  obtain ⟨x, HX⟩ : ∃ x, Hid (wbits s2.works s2.n = x) := ⟨_, Lib.hid rfl⟩
                  rw [HX.out] at HWO HBT
                  clear hwb hw32 hw
                  go_wp2_with fail
                  refine (HWO.out _ HZ.out.2.2.1).mono ?_
                  rintro e w' ⟨rfl, hc⟩
                  replace HZ := Lib.hid (HZ.out.keep hc)
                  clear hc
                  go_wp2_with fail
                  refine (HWO.out _ HZ.out.2.2.1).mono ?_
                  rintro e w' ⟨rfl, hc⟩
                  replace HZ := Lib.hid (HZ.out.keep hc)
                  clear hc HWO
                  go_wp2_with fail
                  refine (HBT.out _).mono ?_
                  rintro e w' ⟨rfl, rfl⟩
                  clear HBT
                  go_wp2_with fail
                all_goals
                  go_loopw [13, 14] (fun up i wr => ∃ j : Nat, j ≤ k ∧ i = .int .i64 j ∧ ∃ u : Nat, up = .int .i64 u ∧ u < k ∧ Hid (0 ≤ pa → upN s2 p j = u) ∧ Hid (CRel w wr t g k s2)) (fun _ i _ => k - (intOf i).toNat)
                  case atStart => exact ⟨0, Nat.zero_le _, rfl, p, rfl, HHP.out, Lib.hid (fun _ => rfl), HZ⟩
                  case round =>
                    clear HZ
                    obtain ⟨j2, hj2k, rfl, u, rfl, huk, HU, HZ⟩ := hrel
                    have hu1 : (u : Int) < k := by omega
                    have HP1 : Hid (p + 1 ≤ k) := Lib.hid (by have := HHP.out; omega)
                    by_cases hpa : 0 ≤ pa
                    · by_cases hu0 : u = 0
                      · have hub : ((u : Int) == 0) = true := by rw [hu0]; rfl
                        by_cases hjk : j2 < k
                        · have hjk1 : (j2 : Int) < k := by omega
                          clear hu0
                          go_wp2
                          go_roundw
                          case rel => exact ⟨p + 1, HP1.out, by go_num, HZ⟩
                          case measure => simp [intOf]; omega
                        · have hjk1 : ¬ (j2 : Int) < k := by omega
                          clear hu0
                          go_wp2
                          go_roundw
                          case rel => exact ⟨p + 1, HP1.out, by go_num, HZ⟩
                          case measure => simp [intOf]; omega
                      · have hub : ((u : Int) == 0) = false := by rw [beq_eq_false_iff_ne]; omega
                        have hjk : j2 < k := by
                          refine Classical.byContradiction fun hn => hu0 ?_
                          have h1 := HEND.out hpa
                          have h2 := HU.out hpa
                          rw [show k = j2 by omega] at h1
                          omega
                        have hjk1 : (j2 : Int) < k := by omega
                        have h3 := HUP.out hpa j2
                        have h4 := HUP.out hpa (j2 + 1)
                        rw [HU.out hpa] at h3
                        have h5 : upN s2 p (j2 + 1) = (s2.parent u).toNat := by rw [upN, HU.out hpa, if_neg hu0]
                        rw [h5] at h4
                        have h6 : 0 ≤ s2.parent u := by
                          rcases h3.2 with h | h
                          · exact absurd h hu0
                          · exact h
                        have hus : u < s2.n := by rw [HZ.out.2.1]; exact huk
                        have HN := Lib.hid (node_any _ _ t g s2 HZ.out.2.2.1 HZ.out.1.inv.n1 u)
                        have hna : s2.nodeAt u = s2.parent u := by unfold CNet.nodeAt; rw [if_pos ((s2.is_iff u).2 ⟨u, rfl, hus⟩), Int.toNat_natCast]
                        rw [hna] at HN
                        obtain ⟨x, hx⟩ := Int.eq_ofNat_of_zero_le h6
                        rw [hx, Int.toNat_natCast] at h4 h5
                        rw [hx] at HN
                        have hxk : x < k := h4.1
                        have HU2 : Hid (0 ≤ pa → upN s2 p (j2 + 1) = x) := Lib.hid fun _ => h5
                        have HIB : Hid (inB (x : Int) 0 ((k : Int) - 1) = true) := Lib.hid (by unfold inB; rw [Bool.and_eq_true, decide_eq_true_eq, decide_eq_true_eq]; omega)
                        clear h3 h4 h5 h6 hus hna hx hu0
                        go_wp2_with fail
                        refine HN.out.mono ?_
                        rintro e w' ⟨rfl, hc⟩
                        replace HZ := Lib.hid (HZ.out.keep hc)
                        clear hc HN
                        go_wp2_with fail
                        refine (lawIn_any _ _ _ _).mono ?_
                        rintro e w' ⟨rfl, rfl⟩
                        rw [HIB.out]
                        go_wp2
                        go_roundw
                        case rel => exact ⟨j2 + 1, by omega, by go_num, x, rfl, hxk, HU2, HZ⟩
                        case measure => simp [intOf]; omega
                    · by_cases hjk : j2 < k
                      · have hjk1 : (j2 : Int) < k := by omega
                        go_wp2
                        all_goals go_roundw
                        all_goals first | exact ⟨p + 1, HP1.out, by go_num, HZ⟩ | (simp [intOf]; omega)
                      · have hjk1 : ¬ (j2 : Int) < k := by omega
                        go_wp2
                        all_goals go_roundw
                        all_goals first | exact ⟨p + 1, HP1.out, by go_num, HZ⟩ | (simp [intOf]; omega)
          · have hp1 : ¬ (p : Int) < k := by omega
            go_wp2
            go_roundw
            case rel => exact ⟨j + 1, by have := HJ.out; omega, by have := HJ.out; omega, by go_num, _, HZ⟩
            case measure => simp [intOf]; omega
    · have hb : ¬ (j : Int) < sl ∨ ((j : Int) < sl ∧ ¬ (j : Int) < 200) := by omega
      clear hlt
      rcases hb with hb | ⟨hb1, hb2⟩
      all_goals
        go_wp2
        go_ret
        exact ⟨rfl, HS.out.2.2.2⟩

end Go.Proofs.Ytbckjmbhipofaaa
