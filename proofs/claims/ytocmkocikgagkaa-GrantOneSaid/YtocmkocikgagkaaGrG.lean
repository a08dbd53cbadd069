/-
  The walk of GrantGoes: behind whatever happened, if all that is on all ways comes, and who is in leaves, each that asks was in.
  Conditions: the steps are read as lists of integers.
-/
import Derived.Test.YtocmkocikgagkaaGrF
import Derived.Test.YtocmkocikgagkaaIntss
namespace Go.Proofs.Ytocmkocikgagkaa
open Go Go.RowKit

/-- What is known of a net while a law goes on: w is the world of the call's start. -/
def GRel (w wr : World) (t g n : Nat) (s : GNet) : Prop := GInv s ∧ s.n = n ∧ GIn (fun b => b < w.heap.size) wr t g s ∧ Chg (NewB w) w wr

theorem GRel.ask {w wr wr' : World} {t g n : Nat} {s : GNet} (h : GRel w wr t g n s) (p : Int) (hin : GIn (fun b => b < w.heap.size) wr' t g (s.ask p)) (hc : Chg (NewB w) wr wr') : GRel w wr' t g n (s.ask p) :=
  ⟨(h.1.askD p).1, (h.1.askD p).2.1.trans h.2.1, hin, h.2.2.2.trans hc⟩
theorem GRel.leave {w wr wr' : World} {t g n : Nat} {s : GNet} (h : GRel w wr t g n s) (p : Int) (hin : GIn (fun b => b < w.heap.size) wr' t g (s.leave p)) (hc : Chg (NewB w) wr wr') : GRel w wr' t g n (s.leave p) :=
  ⟨(h.1.leaveD p).1, (h.1.leaveD p).2.1.trans h.2.1, hin, h.2.2.2.trans hc⟩
theorem GRel.step {w wr wr' : World} {t g n : Nat} {s : GNet} (h : GRel w wr t g n s) (p q : Int) (hin : GIn (fun b => b < w.heap.size) wr' t g (s.step p q)) (hc : Chg (NewB w) wr wr') : GRel w wr' t g n (s.step p q) :=
  ⟨(h.1.stepD p q).1, (h.1.stepD p q).2.1.trans h.2.1, hin, h.2.2.2.trans hc⟩
theorem GRel.keep {w wr wr' : World} {t g n : Nat} {s : GNet} (h : GRel w wr t g n s) (hc : Chg NoF wr wr') : GRel w wr' t g n s := ⟨h.1, h.2.1, h.2.2.1.keep hc, h.2.2.2.trans hc.ofNo⟩

/-! ### Rounds -/
def Rounds (r : Nat) (s : GNet) : Prop := phi s + r ≤ 52 ∨ phi s ≤ 0
def InRnd (P : Int) (T : GNet → Prop) (s : GNet) : Prop := phi s + 1 ≤ P ∨ (phi s ≤ P ∧ T s)

theorem InRnd.mono {P : Int} {T T' : GNet → Prop} {s : GNet} (h : InRnd P T s) (hT : T s → T' s) : InRnd P T' s := by
  rcases h with h | h
  · exact .inl h
  · exact .inr ⟨h.1, hT h.2⟩

theorem InRnd.leave {P : Int} {T T' : GNet → Prop} {s : GNet} (hr : InRnd P T s) (h : GInv s) (p : Int) (hT : ∀ s, T s → s.leaveErr p ≠ 0 → T' s) : InRnd P T' (s.leave p) := by
  obtain ⟨_, _, _, h5, h6⟩ := h.leaveD p
  by_cases he : s.leaveErr p = 0
  · have := h5 he
    rcases hr with hr | hr
    · left; omega
    · left; omega
  · rw [h6 he]
    rcases hr with hr | hr
    · exact .inl hr
    · exact .inr ⟨hr.1, hT s hr.2 he⟩

theorem InRnd.step {P : Int} {T T' : GNet → Prop} {s : GNet} (hr : InRnd P T s) (h : GInv s) (p q : Int) (hT : ∀ s, T s → s.stepErr p q ≠ 0 → T' s) : InRnd P T' (s.step p q) := by
  obtain ⟨_, _, h5, h6⟩ := h.stepD p q
  by_cases he : s.stepErr p q = 0
  · have := (h5 he).2
    rcases hr with hr | hr
    · left; omega
    · left; omega
  · rw [h6 he]
    rcases hr with hr | hr
    · exact .inl hr
    · exact .inr ⟨hr.1, hT s hr.2 he⟩

def Tried (p q : Nat) (s : GNet) : Prop := (∀ a, a < p → s.leaveErr a ≠ 0) ∧ (∀ a b, b < s.n → (a < p ∨ (a = p ∧ b < q)) → s.stepErr a b ≠ 0)
def Tried1 (p q : Nat) (s : GNet) : Prop := (∀ a, a ≤ p → s.leaveErr a ≠ 0) ∧ (∀ a b, b < s.n → (a < p ∨ (a = p ∧ b < q)) → s.stepErr a b ≠ 0)

theorem tried_stop {p : Nat} : ∀ s, Tried p 0 s → s.leaveErr p ≠ 0 → Tried1 p 0 s := fun s h he =>
  ⟨fun a ha => by
    by_cases e : a = p
    · subst e; exact he
    · exact h.1 a (by omega), h.2⟩

theorem tried_step {p q : Nat} : ∀ s, Tried1 p q s → s.stepErr p q ≠ 0 → Tried1 p (q + 1) s := fun s h he =>
  ⟨h.1, fun a b hb hab => by
    by_cases e : a = p ∧ b = q
    · obtain ⟨rfl, rfl⟩ := e; exact he
    · exact h.2 a b hb (by omega)⟩

theorem tried_row {p : Nat} {s : GNet} (h : Tried1 p s.n s) : Tried (p + 1) 0 s :=
  ⟨fun a ha => h.1 a (by omega), fun a b hb hab => h.2 a b hb (by omega)⟩

theorem tried_still {s : GNet} (h : Tried s.n 0 s) : Still s := by
  have hi : ∀ p, p < s.n → s.is p = true := fun p hp => (s.is_iff p).2 ⟨p, rfl, hp⟩
  refine ⟨fun p hp => ?_, fun p q hp hq => ?_⟩
  · have h1 := h.1 p hp
    unfold GNet.leaveErr at h1
    rw [if_neg (by rw [hi p hp]; simp), Int.toNat_natCast] at h1
    intro h2
    rw [if_neg (by simp [h2])] at h1
    exact h1 rfl
  · have h1 := h.2 p q hq (.inl hp)
    unfold GNet.stepErr at h1
    rw [if_neg (by rw [hi p hp, hi q hq]; simp), Int.toNat_natCast, Int.toNat_natCast] at h1
    cases hw : s.ways p q with
    | nil => rfl
    | cons x l => rw [hw] at h1; simp at h1

theorem rounds_start {s : GNet} (hb : GInv s) : Rounds 0 s := by
  have h1 := phi_le hb
  left; omega

theorem rounds_in {r : Nat} {s : GNet} (h : Rounds r s) : ∃ P : Int, (P + r ≤ 52 ∨ P ≤ 0) ∧ InRnd P (Tried 0 0) s := by
  refine ⟨phi s, h, .inr ⟨Int.le_refl _, fun a ha => ?_, fun a b _ hab => ?_⟩⟩
  · omega
  · omega

theorem rounds_next {s : GNet} (hb : GInv s) {r : Nat} {P : Int} (hP : P + r ≤ 52 ∨ P ≤ 0) (h : InRnd P (Tried s.n 0) s) : Rounds (r + 1) s := by
  rcases h with h | ⟨_, h⟩
  · rcases hP with hP | hP
    · left; push_cast; omega
    · right; omega
  · right
    have := (hb.still (tried_still h)).2.2
    omega

theorem rounds_end {r : Nat} {s : GNet} (h : Rounds r s) (hr : 53 ≤ r) : Still s := by
  have := phi_nonneg s
  rcases h with h | h
  · omega
  · exact phi_still h

set_option maxHeartbeats 8000000 in
set_option maxRecDepth 100000 in
theorem goes_walk (n : Int) (v : Value) (ll : List (List Int)) (w : World) (hr : Rd2 (fun k => k < w.heap.size) w v ll) (hlb : ll.length ≤ 9223372036854775807) :
    Calls Try.prog 3 #[.int .i64 n, v] w fun e w' => e = .returned (.bool true) ∧ Chg (NewB w) w w' := by
  have HR := Lib.hid hr
  clear hr
  go_enter Try.func3, Try.ntmps3
  go_wp2_with fail
  refine (grantFact_any w).mono ?_
  rintro e w1 ⟨rfl, hc1⟩
  go_wp2_with fail
  refine (new_any n w1).mono ?_
  rintro e w2 ⟨hc2, hnew⟩
  have HC1 := Lib.hid hc1
  have HC2 := Lib.hid hc2
  clear hc1 hc2
  rcases hnew with ⟨hbad, rfl⟩ | ⟨k, rfl, hk1, hk5, t, g, rfl, hin⟩
  · have hb : decide (n < 1) = true ∨ (decide (n < 1) = false ∧ decide (4 < n) = true) := by
      rcases Bool.and_eq_false_iff.1 hbad with h | h
      · left; rw [decide_eq_true_eq]; have := of_decide_eq_false h; omega
      · by_cases h1 : n < 1
        · left; rw [decide_eq_true_eq]; exact h1
        · right; rw [decide_eq_true_eq, decide_eq_false_iff_not]; have := of_decide_eq_false h; omega
    rw [show errV 1 = .iface 40 (.int .i64 1) from rfl]
    clear hbad
    rcases hb with hb | ⟨hb1, hb2⟩
    · go_wp2
      go_ret
      exact ⟨rfl, (HC1.out.trans HC2.out).ofNo⟩
    · go_wp2
      go_ret
      exact ⟨rfl, (HC1.out.trans HC2.out).ofNo⟩
  have HREL : Hid (GRel w w2 t g k (GNet.init k)) := Lib.hid ⟨GInv.start hk1 hk5, rfl, hin.mono (fun b hb => Nat.lt_of_lt_of_le hb HC1.out.size), (HC1.out.trans HC2.out).ofNo⟩
  clear hin
  obtain ⟨pv, cv, rfl⟩ := HR.out.val
  obtain ⟨sl, hSL⟩ : ∃ sl, Hid (ll.length = sl) := ⟨_, Lib.hid rfl⟩
  rw [hSL.out] at hlb HR ⊢
  go_wp2_with fail
  go_loopw [8] (fun i wr => ∃ j : Nat, j ≤ sl ∧ j ≤ 150 ∧ i = .int .i64 j ∧ ∃ s, Hid (GRel w wr t g k s)) (fun i _ => 150 - (intOf i).toNat)
  case atStart => exact ⟨0, Nat.zero_le _, Nat.zero_le _, rfl, _, HREL⟩
  case round =>
    obtain ⟨j, hjsl, hj150, rfl, s, HT⟩ := hrel
    by_cases hlt : j < sl ∧ j < 150
    · obtain ⟨hlt1, hlt2⟩ := hlt
      obtain ⟨b, off, c, u, e1, hcell, hrow, hrl⟩ := HR.out.at HT.out.2.2.2 (fun b hb hn => hn hb) (j := j) (by rw [hSL.out]; exact hlt1)
      simp only [Value.slice.injEq] at e1
      obtain ⟨rfl, -, rfl⟩ := e1
      have hj1 : (j : Int) < sl := by omega
      have hj2 : (j : Int) < 150 := by omega
      obtain ⟨l, HL⟩ : ∃ l, Hid (ll.getD j [] = l) := ⟨_, Lib.hid rfl⟩
      rw [HL.out] at hrow hrl
      obtain ⟨m, hM⟩ : ∃ m, Hid (l.length = m) := ⟨_, Lib.hid rfl⟩
      rw [hM.out] at hrl
      have HROW := Lib.hid hrow
      clear hrow
      by_cases h2 : m = 2
      · subst h2
        obtain ⟨b2, off2, c2, rfl, hbS, hc⟩ := HROW.out.form (by rw [hM.out]; omega)
        rw [hM.out] at hc hcell
        have d0 := hc 0 (by omega)
        have d1 := hc 1 (by omega)
        obtain ⟨x, hX⟩ : ∃ x, Hid (l.getD 0 0 = x) := ⟨_, Lib.hid rfl⟩
        obtain ⟨y, hY⟩ : ∃ y, Hid (l.getD 1 0 = y) := ⟨_, Lib.hid rfl⟩
        rw [hX.out, Nat.add_zero] at d0
        rw [hY.out] at d1
        clear hc hrl
        by_cases hy : y = 0
        · have hy1 : (y == 0) = true := by rw [hy]; rfl
          have hy2 : (y != 0) = false := by rw [hy]; rfl
          have HG := Lib.hid (ask_any _ _ t g s HT.out.2.2.1 HT.out.1.sane x)
          clear hy
          go_wp2_with fail
          refine HG.out.mono ?_
          rintro e w1 ⟨rfl, hin, hcc⟩
          have HT2 := Lib.hid (HT.out.ask x hin hcc)
          have hcc : Chg (NewB w) _ w1 := hcc
          replace d0 := hcc.cell_some d0 (fun hn => hn hbS)
          replace d1 := hcc.cell_some d1 (fun hn => hn hbS)
          clear hin hcc HG
          go_wp2
          go_roundw
          case rel => exact ⟨j + 1, by omega, by omega, by go_num, _, HT2⟩
          case measure => simp [intOf]; omega
        · have hy1 : (y == 0) = false := by rw [beq_eq_false_iff_ne]; exact hy
          have hy2 : (y != 0) = true := by rw [bne_iff_ne]; exact hy
          have HG := Lib.hid (leave_any _ _ t g s HT.out.2.2.1 HT.out.1.sane x)
          clear hy
          go_wp2_with fail
          refine HG.out.mono ?_
          rintro e w1 ⟨rfl, hin, hcc⟩
          have HT2 := Lib.hid (HT.out.leave x hin hcc)
          clear hin hcc HG d0 d1
          go_wp2
          go_roundw
          case rel => exact ⟨j + 1, by omega, by omega, by go_num, _, HT2⟩
          case measure => simp [intOf]; omega
      by_cases h3 : m = 3
      · subst h3
        obtain ⟨b2, off2, c2, rfl, hbS, hc⟩ := HROW.out.form (by rw [hM.out]; omega)
        rw [hM.out] at hc hcell
        have d0 := hc 0 (by omega)
        have d1 := hc 1 (by omega)
        obtain ⟨x, hX⟩ : ∃ x, Hid (l.getD 0 0 = x) := ⟨_, Lib.hid rfl⟩
        obtain ⟨y, hY⟩ : ∃ y, Hid (l.getD 1 0 = y) := ⟨_, Lib.hid rfl⟩
        rw [hX.out, Nat.add_zero] at d0
        rw [hY.out] at d1
        clear hc hrl
        have HG := Lib.hid (step_any _ _ t g s (HT.out.2.2.1.keep ((Chg.refl NoF _).drew)) HT.out.1.sane x y)
        clear h2
        go_wp2_with fail
        refine wp_region_plan (Chg NoF _) 7 [(0,true),(1,true),(2,true),(3,true),(4,true),(5,true),(6,true),(7,false)] mixed (by kernel_rfl) (Chg.refl _ _).drew ?_
        simp only [planOps, List.map_cons, List.map_nil, List.getElem?_cons_zero, List.getElem?_cons_succ, Option.getD_some]
        generalize hops : List.toArray _ = ops
        iterate 7 (refine wpPlan_quiet (v := ?_) rfl (fun _ _ _ h => h) (by intro w1 hS; have s0 := hS.cell_some d0 (fun h => h); have s1 := hS.cell_some d1 (fun h => h); clear hS; go_simp; with_reducible rfl) ?_; (simp only [Act.put, List.setIfInBounds_toArray, List.set_cons_zero, List.set_cons_succ]))
        refine wpPlan_loud rfl (fun K hK => ?_)
        go_simp
        refine HG.out.mono ?_
        rintro e w1 ⟨rfl, hin, hcc⟩
        refine hK _ _ (fun h => absurd rfl h) ?_
        clear hK K
        clear hops
        refine wpPlan_nil ?_
        have HT2 := Lib.hid (HT.out.step x y hin (((Chg.refl (NewB w) _).drew).trans hcc))
        clear hin hcc HG
        go_wp2
        go_roundw
        case rel => exact ⟨j + 1, by omega, by omega, by go_num, _, HT2⟩
        case measure => simp [intOf]; omega
      obtain ⟨a2, c2, rfl⟩ := HROW.out.val
      rw [hM.out] at hcell
      have b2 : ((m : Int) == 2) = false := by rw [beq_eq_false_iff_ne]; omega
      have b3 : ((m : Int) == 3) = false := by rw [beq_eq_false_iff_ne]; omega
      have HT2 := HT
      clear h2 h3
      go_wp2
      go_roundw
      case rel => exact ⟨j + 1, by omega, by omega, by go_num, _, HT2⟩
      case measure => simp [intOf]; omega
    · have HREL2 : Hid (GRel w _ t g k s ∧ Rounds 0 s) := Lib.hid ⟨HT.out, rounds_start HT.out.1⟩
      have hb : ¬ (j : Int) < sl ∨ ((j : Int) < sl ∧ ¬ (j : Int) < 150) := by omega
      clear hlt
      rcases hb with hb | ⟨hb1, hb2⟩
      all_goals
        go_wp2_with fail
        go_loopw [10] (fun i wr => ∃ r : Nat, r ≤ 60 ∧ i = .int .i64 r ∧ ∃ s, Hid (GRel w wr t g k s ∧ Rounds r s)) (fun i _ => 60 - (intOf i).toNat)
        case atStart => exact ⟨0, Nat.zero_le _, rfl, s, HREL2⟩
        case round =>
          obtain ⟨r, hr60, rfl, sr, HG⟩ := hrel
          by_cases hr : r < 60
          · obtain ⟨P, hP, hin0⟩ := rounds_in HG.out.2
            have HP := Lib.hid hP
            have HIN0 : Hid (GRel w _ t g k sr ∧ InRnd P (Tried 0 0) sr) := Lib.hid ⟨HG.out.1, hin0⟩
            have hr1 : (r : Int) < 60 := by omega
            clear hP hin0
            go_wp2_with fail
            go_loopw [11] (fun i wr => ∃ p : Nat, p ≤ k ∧ i = .int .i64 p ∧ ∃ s, Hid (GRel w wr t g k s ∧ InRnd P (Tried p 0) s)) (fun i _ => k - (intOf i).toNat)
            case atStart => exact ⟨0, Nat.zero_le _, rfl, sr, HIN0⟩
            case round =>
              obtain ⟨p, hpk, rfl, sp, HI⟩ := hrel
              by_cases hp : p < k
              · have hp1 : (p : Int) < k := by omega
                have HST := Lib.hid (leave_any _ _ t g sp HI.out.1.2.2.1 HI.out.1.1.sane p)
                go_wp2_with fail
                refine HST.out.mono ?_
                rintro e wc ⟨rfl, hin, hc⟩
                have HI2 : Hid (GRel w wc t g k (sp.leave p) ∧ InRnd P (Tried1 p 0) (sp.leave p)) := Lib.hid ⟨HI.out.1.leave p hin hc, HI.out.2.leave HI.out.1.1 p tried_stop⟩
                clear hin hc HST
                go_wp2_with fail
                go_loopw [12] (fun i wr => ∃ q : Nat, q ≤ k ∧ i = .int .i64 q ∧ ∃ s, Hid (GRel w wr t g k s ∧ InRnd P (Tried1 p q) s)) (fun i _ => k - (intOf i).toNat)
                case atStart => exact ⟨0, Nat.zero_le _, rfl, _, HI2⟩
                case round =>
                  obtain ⟨q, hqk, rfl, sq, HQ⟩ := hrel
                  by_cases hq : q < k
                  · have hq1 : (q : Int) < k := by omega
                    have HST := Lib.hid (step_any _ _ t g sq HQ.out.1.2.2.1 HQ.out.1.1.sane p q)
                    go_wp2_with fail
                    refine HST.out.mono ?_
                    rintro e wd ⟨rfl, hin, hc⟩
                    have HQ2 : Hid (GRel w wd t g k (sq.step p q) ∧ InRnd P (Tried1 p (q + 1)) (sq.step p q)) := Lib.hid ⟨HQ.out.1.step p q hin hc, HQ.out.2.step HQ.out.1.1 p q tried_step⟩
                    clear hin hc HST
                    go_wp2
                    go_roundw
                    case rel => exact ⟨q + 1, by omega, by go_num, _, HQ2⟩
                    case measure => simp [intOf]; omega
                  · have hq1 : ¬ (q : Int) < k := by omega
                    have HI3 : Hid (GRel w _ t g k sq ∧ InRnd P (Tried (p + 1) 0) sq) := Lib.hid ⟨HQ.out.1, HQ.out.2.mono fun h => tried_row (by rw [HQ.out.1.2.1, show k = q by omega]; exact h)⟩
                    go_wp2
                    go_roundw
                    case rel => exact ⟨p + 1, by omega, by go_num, _, HI3⟩
                    case measure => simp [intOf]; omega
              · have hp1 : ¬ (p : Int) < k := by omega
                have HG2 : Hid (GRel w _ t g k sp ∧ Rounds (r + 1) sp) := Lib.hid ⟨HI.out.1, rounds_next HI.out.1.1 HP.out (HI.out.2.mono fun h => by rw [HI.out.1.2.1, show k = p by omega]; exact h)⟩
                go_wp2
                go_roundw
                case rel => exact ⟨r + 1, by omega, by go_num, _, HG2⟩
                case measure => simp [intOf]; omega
          · have hr1 : ¬ (r : Int) < 60 := by omega
            have hst := rounds_end HG.out.2 (by omega)
            have hzz := (HG.out.1.1.still hst).1
            have HZZ : Hid (∀ p, p < k → (if sr.is (p : Int) = true then sr.st (p : Int).toNat else -1) = 0) := Lib.hid fun p hp => by
              have hp' : p < sr.n := by rw [HG.out.1.2.1]; exact hp
              rw [if_pos ((sr.is_iff p).2 ⟨p, rfl, hp'⟩), Int.toNat_natCast]; exact hzz p hp'
            have HREL3 := Lib.hid HG.out.1
            clear hst hzz
            go_wp2_with fail
            go_loopw [13] (fun i wr => ∃ p : Nat, p ≤ k ∧ i = .int .i64 p ∧ Hid (GRel w wr t g k sr)) (fun i _ => k - (intOf i).toNat)
            case atStart => exact ⟨0, Nat.zero_le _, rfl, HREL3⟩
            case round =>
              obtain ⟨p, hpk, rfl, HZ⟩ := hrel
              by_cases hp : p < k
              · have hp1 : (p : Int) < k := by omega
                have HN := Lib.hid (state_any _ _ t g sr HZ.out.2.2.1 HZ.out.1.n1 p)
                rw [HZZ.out p hp] at HN
                go_wp2_with fail
                refine HN.out.mono ?_
                rintro e w' ⟨rfl, rfl⟩
                clear HN
                go_wp2
                go_roundw
                case rel => exact ⟨p + 1, by omega, by go_num, HZ⟩
                case measure => simp [intOf]; omega
              · have hp1 : ¬ (p : Int) < k := by omega
                go_wp2
                go_ret
                exact ⟨rfl, HZ.out.2.2.2⟩

end Go.Proofs.Ytocmkocikgagkaa
