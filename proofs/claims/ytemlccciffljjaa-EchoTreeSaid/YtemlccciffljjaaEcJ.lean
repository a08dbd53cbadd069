/-
  The walk of EchoTree: when it is back it was everywhere: then each node has a parent that is near it, and up along these is node 0; over each way something was sent just once, and nothing is on any.
  Conditions: the sets are read as a list of integers, the steps as lists of integers.
-/
import Derived.Test.YtemlccciffljjaaEcI
import Derived.Test.YtemlccciffljjaaBit
import Derived.Deep.DeepCutAuto
import Derived.Deep.CutBlock
namespace Go.Proofs.Ytemlccciffljjaa
open Go Go.RowKit

/-- A loud operation with a guard that says no. -/
theorem wpPlan_loudN {P : Program} {ops : Array Oper} {Q : Exit → Act → World → Prop} {S : World → Prop} {L : Nat} {i : Nat} {pl : List (Nat × Oper × Bool)} {a : Act} {w : World} {oi : Oper} (hg : Region.wanted oi (yielded ops a.tmps) = false)
    (hS : S w) (h : wpPlanL P ops Q S L pl (a.put oi.dst undef) w) : wpPlanL P ops Q S L ((i, oi, false) :: pl) a w := by
  simp only [wpPlanL]
  rw [if_neg (by simp [hg])]
  exact ⟨fun _ => hS, h⟩

theorem bitB_eq (x i : Nat) : bitB x i = x.testBit i := by
  unfold bitB; rw [Nat.testBit_eq_decide_div_mod_eq]

/-- The sums of the first p rows, and of the first q of row p. -/
def Wv.manyTo (s : Wv) (p : Nat) : Int := sumN p fun a => sumN s.n fun b => b2i (s.nr a b)
def Wv.leftTo (s : Wv) (p : Nat) : Int := sumN p fun a => sumN s.n fun b => s.ways a b

theorem EInv.manyB {s : Wv} (h : EInv s) {p : Nat} (hp : p ≤ s.n) : 0 ≤ s.manyTo p ∧ s.manyTo p ≤ 5 * p := by
  have h1 : ∀ a, a < p → sumN s.n (fun b => b2i (s.nr a b)) ≤ 5 := fun a _ => (bit_sum s.n h.net.n5 _).2
  have h2 := sum_le h1
  rw [sum_const] at h2
  have h3 : 0 ≤ s.manyTo p := sum_nonneg fun a _ => (bit_sum s.n h.net.n5 _).1
  exact ⟨h3, by unfold Wv.manyTo; omega⟩
theorem EInv.wayRow {s : Wv} (h : EInv s) {p q : Nat} (hp : p < s.n) (hq : q ≤ s.n) : 0 ≤ sumN q (fun b => s.ways p b) ∧ sumN q (fun b => s.ways p b) ≤ 5 := by
  have h1 := sum_le (n := q) (f := fun b => s.ways p b) (g := fun _ => 1) (fun b hb => (h.way01 hp (by omega)).2)
  rw [sum_const] at h1
  have h2 := sum_nonneg (n := q) (f := fun b => s.ways p b) (fun b hb => (h.way01 hp (by omega)).1)
  have := h.net.n5
  omega
theorem EInv.leftB {s : Wv} (h : EInv s) {p : Nat} (hp : p ≤ s.n) : 0 ≤ s.leftTo p ∧ s.leftTo p ≤ 5 * p := by
  have h1 : ∀ a, a < p → sumN s.n (fun b => s.ways a b) ≤ 5 := fun a ha => (h.wayRow (by omega) (Nat.le_refl _)).2
  have h2 := sum_le h1
  rw [sum_const] at h2
  have h3 : 0 ≤ s.leftTo p := sum_nonneg fun a ha => (h.wayRow (by omega) (Nat.le_refl _)).1
  exact ⟨h3, by unfold Wv.leftTo; omega⟩

theorem parents_at (s : Wv) {p : Nat} (hp : p < s.n) : s.parents.getD p 0 = s.parent p := by
  unfold Wv.parents
  rw [List.getD_eq_getElem?_getD]
  simp [hp]
theorem parents_len (s : Wv) : s.parents.length = s.n := by unfold Wv.parents; simp

set_option maxHeartbeats 8000000 in
set_option maxRecDepth 100000 in
theorem tree_walk (nv v : Value) (nl : List Int) (ll : List (List Int)) (w : World) (hnr : Rd (fun k => k < w.heap.size) w nv nl) (hnb : nl.length ≤ 9223372036854775807) (hr : Rd2 (fun k => k < w.heap.size) w v ll) (hlb : ll.length ≤ 9223372036854775807) :
    Calls Try.prog 4 #[nv, v] w fun e w' => e = .returned (.bool true) ∧ Chg (NewB w) w w' := by
  have HR := Lib.hid hr
  have HNR := Lib.hid hnr
  obtain ⟨na, nc, rfl⟩ := hnr.val
  obtain ⟨pv, cv, rfl⟩ := hr.val
  have HNB := Lib.hid hnb
  clear hr hnr hnb
  obtain ⟨n, hN⟩ : ∃ n, Hid (nl.length = n) := ⟨_, Lib.hid rfl⟩
  obtain ⟨sl, hSL⟩ : ∃ sl, Hid (ll.length = sl) := ⟨_, Lib.hid rfl⟩
  rw [hSL.out] at hlb HR ⊢
  rw [hN.out] at HNR ⊢
  go_enter Try.func4, Try.ntmps4
  go_wp2_with fail
  refine (echoFact_any w).mono ?_
  rintro e w1 ⟨rfl, hc1⟩
  have HC1 := Lib.hid hc1
  have HNW := Lib.hid (new_any (fun k => k < w.heap.size) _ nl w1 (HNR.out.keep hc1 (fun _ _ h => h)) HNB.out)
  clear hc1
  go_wp2_with fail
  refine HNW.out.mono ?_
  rintro e w2 ⟨hc2, hnew⟩
  have HC2 := Lib.hid hc2
  clear hc2 HNW
  rcases hnew with ⟨hbad, rfl⟩ | ⟨hck, t, rfl, hin⟩
  · rw [show errV (checkErr nl) = .iface 45 (.int .i64 (checkErr nl)) from if_neg hbad]
    clear hbad
    go_wp2
    go_ret
    exact ⟨rfl, (HC1.out.trans HC2.out).ofNo⟩
  obtain ⟨hnet, hvals⟩ := check_net hck
  have HVALS := Lib.hid hvals
  have HREL : Hid (WRel w w2 t nl (Wv.init nl.length (nearOf nl))) := Lib.hid ⟨init_inv hnet, init_n _ _ hnet, hin.mono fun _ hb => Nat.lt_of_lt_of_le hb HC1.out.size, (HC1.out.trans HC2.out).ofNo⟩
  have hn1 : 1 ≤ n := by rw [← hN.out]; exact hnet.n1
  have hn5 : n ≤ 5 := by rw [← hN.out]; exact hnet.n5
  clear hin hck hnet hvals
  go_wp2_with fail
  go_loopw [9] (fun i wr => ∃ j : Nat, j ≤ sl ∧ j ≤ 100 ∧ i = .int .i64 j ∧ ∃ s, Hid (WRel w wr t nl s)) (fun i _ => 100 - (intOf i).toNat)
  case atStart => exact ⟨0, Nat.zero_le _, Nat.zero_le _, rfl, _, HREL⟩
  case round =>
    clear HREL
    obtain ⟨j, hjsl, hj100, rfl, s, HT⟩ := hrel
    by_cases hlt : j < sl ∧ j < 100
    · obtain ⟨hlt1, hlt2⟩ := hlt
      obtain ⟨b, off, c, u, e1, hcell, hrow, hrl⟩ := HR.out.at HT.out.2.2.2 (fun b hb hn => hn hb) (j := j) (by rw [hSL.out]; exact hlt1)
      simp only [Value.slice.injEq] at e1
      obtain ⟨rfl, -, rfl⟩ := e1
      have hj1 : (j : Int) < sl := by omega
      have hj2 : (j : Int) < 100 := by omega
      have HJ : Hid (j + 1 ≤ sl ∧ j + 1 ≤ 100) := Lib.hid ⟨hlt1, hlt2⟩
      obtain ⟨l, HL⟩ : ∃ l, Hid (ll.getD j [] = l) := ⟨_, Lib.hid rfl⟩
      rw [HL.out] at hrow
      obtain ⟨ln, hLN⟩ : ∃ x, Hid (l.length = x) := ⟨_, Lib.hid rfl⟩
      clear hrl hlt1 hlt2 hjsl hj100
      have hcase : ln = 2 ∨ ln ≠ 2 := by omega
      obtain ⟨a3, c3, rfl⟩ := hrow.val
      rw [hLN.out] at hcell
      go_upto_if 44 with fail
      go_cut [] (fun wx => ∃ s2, Hid (WRel w wx t nl s2))
      case first =>
        rcases hcase with h2 | h2
        · as_aux_lemma =>
          subst h2
          obtain ⟨b4, off4, c4, e4, hbS, hc⟩ := hrow.form (by rw [hLN.out]; omega)
          rw [hLN.out] at hc e4
          simp only [Value.slice.injEq] at e4
          obtain ⟨rfl, -, rfl⟩ := e4
          have d0 := hc 0 (by omega)
          have d1 := hc 1 (by omega)
          obtain ⟨x, hX⟩ : ∃ x, Hid (l.getD 0 0 = x) := ⟨_, Lib.hid rfl⟩
          obtain ⟨y, hY⟩ : ∃ y, Hid (l.getD 1 0 = y) := ⟨_, Lib.hid rfl⟩
          rw [hX.out, Nat.add_zero] at d0
          rw [hY.out] at d1
          have HG := Lib.hid (step_any _ (World.drew _) t s (HT.out.2.2.1.keep ((Chg.refl NoF _).drew)) HT.out.1 x y)
          clear hrow hc
          go_wp2_with fail
          refine wp_region_plan (Chg NoF _) 13 [(0,true),(1,true),(2,true),(3,true),(4,true),(5,true),(6,true),(7,true),(8,true),(9,true),(10,true),(11,true),(12,true),(13,false)] mixed (by kernel_rfl) (Chg.refl _ _).drew ?_
          simp only [planOps, List.map_cons, List.map_nil, List.getElem?_cons_zero, List.getElem?_cons_succ, Option.getD_some]
          generalize hops : List.toArray _ = ops
          iterate 13 (refine wpPlan_quiet (v := ?_) rfl (fun _ _ _ h => h) (by intro w1 hS; have s0 := hS.cell_some hcell (fun h => h); have s1 := hS.cell_some d0 (fun h => h); have s2 := hS.cell_some d1 (fun h => h); clear hS; go_simp; with_reducible rfl) ?_; (simp only [Act.put, List.setIfInBounds_toArray, List.set_cons_zero, List.set_cons_succ]))
          refine wpPlan_loud rfl (fun K hK => ?_)
          go_simp
          refine HG.out.mono ?_
          rintro e w1 ⟨rfl, hin, hcc⟩
          refine hK _ _ (fun h => absurd rfl h) ?_
          clear hK K
          clear hops
          refine wpPlan_nil ?_
          have HT2 : Hid (WRel w w1 t nl (s.step x y)) := Lib.hid ((HT.out.keep ((Chg.refl NoF _).drew)).step x y hin hcc)
          clear hin hcc HG hcell d0 d1 HT
          go_wp2_with fail
          go_meet
          case rel => exact ⟨_, HT2⟩
        · have b2 : ((ln : Int) == 2) = false := by rw [beq_eq_false_iff_ne]; omega
          clear hrow
          go_wp2_with fail
          go_meet
          case rel => exact ⟨s, HT⟩
      case rest =>
        obtain ⟨s2, HZ0⟩ := hcut
        obtain ⟨w1, rfl⟩ : ∃ x, x = wc := ⟨_, rfl⟩
        clear hrow hcell HT hcase
        have HP := Lib.hid (parents_any _ w1 t s2 HZ0.out.2.2.1 HZ0.out.1.net.n5)
        have HPG : Hid (∀ p, p < n → s2.parents.getD p 0 = s2.parent p) := Lib.hid fun p hp => parents_at s2 (by rw [HZ0.out.2.1.1, hN.out]; exact hp)
        have HPL : Hid (s2.parents.length = n) := Lib.hid (by rw [parents_len, HZ0.out.2.1.1, hN.out])
        have HSN : Hid (s2.n = n) := Lib.hid (HZ0.out.2.1.1.trans hN.out)
        have HIV : Hid (EInv s2) := Lib.hid HZ0.out.1
        obtain ⟨P, HPP⟩ : ∃ x, Hid (s2.parents = x) := ⟨_, Lib.hid rfl⟩
        rw [HPP.out] at HP HPG HPL
        have HNRC : Hid (∀ p, p < n → nl.getD p 0 = ((s2.near p : Nat) : Int)) := Lib.hid fun p hp => by rw [HVALS.out p (by rw [hN.out]; exact hp), HZ0.out.2.1.2]
        go_wp2_with fail
        refine HP.out.mono ?_
        rintro e w2 ⟨v', rfl, hown, hc⟩
        have HZ1 : Hid (WRel w w2 t nl s2 ∧ Rd (fun _ => True) w2 v' P) := Lib.hid ⟨HZ0.out.keep hc, Rd.ofOwns hown (fun _ _ => trivial)⟩
        obtain ⟨b2, off2, c2, rfl, _, hpc⟩ := HZ1.out.2.form (by rw [HPL.out]; omega)
        rw [HPL.out] at HZ1 hpc ⊢
        have d0 := hpc 0 (by omega)
        rw [HPG.out 0 (by omega), HIV.out.par0, Nat.add_zero] at d0
        have hn0 : (0 : Int) < n := by omega
        have hnn : ((n : Int) != n) = false := by simp
        have HZ2 : Hid (WRel w w2 t nl s2 ∧ Rd (fun _ => True) w2 (.slice (some ⟨b2, off2, none⟩) n c2) P) := Lib.hid HZ1.out
        clear hown hc HP HZ0 HZ1 hpc
        go_wp2_with fail
        clear d0 hnn
        go_loopw [13, 11, 12] (fun i wy lf wr => ∃ p : Nat, p ≤ n ∧ i = .int .i64 p ∧ wy = .int .i64 (s2.manyTo p) ∧ lf = .int .i64 (s2.leftTo p) ∧ Hid (WRel w wr t nl s2 ∧ Rd (fun _ => True) wr (.slice (some ⟨b2, off2, none⟩) n c2) P)) (fun i _ _ _ => n - (intOf i).toNat)
        case atStart => exact ⟨0, Nat.zero_le _, rfl, rfl, rfl, HZ2⟩
        case round =>
          clear HZ2
          obtain ⟨p, hpn, rfl, rfl, rfl, HZ⟩ := hrel
          obtain ⟨W0, HW0⟩ : ∃ x, Hid (s2.manyTo p = x) := ⟨_, Lib.hid rfl⟩
          obtain ⟨L0, HL0⟩ : ∃ x, Hid (s2.leftTo p = x) := ⟨_, Lib.hid rfl⟩
          have HWB : Hid (0 ≤ W0 ∧ W0 ≤ 25) := Lib.hid (by have := HIV.out.manyB (p := p) (by rw [HSN.out]; exact hpn); rw [HW0.out] at this; omega)
          have HLB : Hid (0 ≤ L0 ∧ L0 ≤ 25) := Lib.hid (by have := HIV.out.leftB (p := p) (by rw [HSN.out]; exact hpn); rw [HL0.out] at this; omega)
          rw [HW0.out, HL0.out]
          by_cases hp : p < n
          · have hp1 : (p : Int) < n := by omega
            have HPN : Hid (p + 1 ≤ n) := Lib.hid hp
            have hps : p < s2.n := by rw [HSN.out]; exact hp
            obtain ⟨wo, rfl⟩ : ∃ x, x = wr := ⟨_, rfl⟩
            obtain ⟨b5, off5, c5, e5, _, hpc⟩ := HZ.out.2.form (by rw [HPL.out]; omega)
            simp only [Value.slice.injEq, Option.some.injEq, Addr.mk.injEq, and_true] at e5
            obtain ⟨⟨rfl, rfl⟩, -, rfl⟩ := e5
            have dP := hpc p (by rw [HPL.out]; exact hp)
            rw [HPG.out p hp] at dP
            have HPC : Hid (∀ a, a < n → wo.cell? ⟨b2, off2 + a, none⟩ = some (.int .i64 (s2.parent a))) := Lib.hid fun a ha => by rw [hpc a (by rw [HPL.out]; exact ha), HPG.out a ha]
            obtain ⟨nb, noff, ncc, e6, _, hnc⟩ := (HNR.out.keep HZ.out.1.2.2.2 (fun b hb hf => hf hb)).form (by rw [hN.out]; omega)
            simp only [Value.slice.injEq] at e6
            obtain ⟨rfl, -, rfl⟩ := e6
            have dN := hnc p (by rw [hN.out]; exact hp)
            rw [HNRC.out p hp] at dN
            obtain ⟨np, HNP⟩ : ∃ x, Hid (s2.near p = x) := ⟨_, Lib.hid rfl⟩
            rw [HNP.out] at dN
            have HNP5 : Hid (np ≤ 1099511627776) := Lib.hid (by
              have h1 := HIV.out.net.lt p hps
              have h2 : (2 : Nat) ^ s2.n ≤ 2 ^ 40 := Nat.pow_le_pow_right (by omega) (by rw [HSN.out]; omega)
              rw [HNP.out] at h1; omega)
            obtain ⟨hx1, hx2⟩ := HIV.out.parR hps
            have HRDP : Hid (0 ≤ s2.parent p → s2.up p n = 0) := Lib.hid fun h => by
              have := HIV.out.upEnd hps (by unfold Wv.rd; exact decide_eq_true h)
              rw [HSN.out] at this; exact this
            have HNB0 : Hid (p ≠ 0 → 0 ≤ s2.parent p → np.testBit (s2.parent p).toNat = true) := Lib.hid fun h0 h => by
              obtain ⟨a, e1, e2, e3, _⟩ := HIV.out.par p hps h0 h
              rw [e1, Int.toNat_natCast, ← HNP.out, HIV.out.net.sym p a hps e2]; exact e3
            have HWHO : Hid (s2.done = true → 0 ≤ s2.parent p) := Lib.hid fun h => by
              have := (HIV.out.whole h p hps).1
              unfold Wv.rd at this; exact of_decide_eq_true this
            have HDA := Lib.hid (fun (wz : World) (hc : Chg NoF wo wz) => done_any _ wz t s2 (HZ.out.1.keep hc).2.2.1)
            obtain ⟨x, HX⟩ : ∃ x, Hid (s2.parent p = x) := ⟨_, Lib.hid rfl⟩
            obtain ⟨dn, HDN⟩ : ∃ x, Hid (s2.done = x) := ⟨_, Lib.hid rfl⟩
            rw [HX.out] at dP hx1 hx2 HRDP HNB0 HWHO
            rw [HSN.out] at hx2
            rw [HDN.out] at HDA HWHO
            have HZD : Hid (WRel w wo.drew t nl s2 ∧ Rd (fun _ => True) wo.drew (.slice (some ⟨b2, off2, none⟩) n c2) P) := Lib.hid ⟨HZ.out.1.keep ((Chg.refl NoF wo).drew), HZ.out.2.keep ((Chg.refl NoF wo).drew) (fun _ _ h => h)⟩
            have HPCD : Hid (∀ a, a < n → wo.drew.cell? ⟨b2, off2 + a, none⟩ = some (.int .i64 (s2.parent a))) := Lib.hid HPC.out
            have HDND : Hid (wo.drew.cell? ⟨nb, noff + p, none⟩ = some (.int .i64 (np : Int))) := Lib.hid dN
            clear hnc hpc HZ
            have hxlt : decide (x < -1) = false := by rw [decide_eq_false_iff_not]; omega
            have hxge : decide ((n : Int) ≤ x) = false := by rw [decide_eq_false_iff_not]; omega
            have HXL := Lib.hid hxlt
            have HXG := Lib.hid hxge
            clear hxlt hxge
            have hfive : (dn = true ∧ 0 ≤ x ∧ p = 0) ∨ (dn = true ∧ 0 ≤ x ∧ p ≠ 0) ∨ (dn = false ∧ 0 ≤ x ∧ p = 0) ∨ (dn = false ∧ 0 ≤ x ∧ p ≠ 0) ∨ (dn = false ∧ x = -1 ∧ p ≠ 0) := by
              have h0 : p = 0 → x = 0 := fun h => by have h1 := HIV.out.par0; rw [← h, HX.out] at h1; exact h1
              cases hd : dn with
              | true =>
                have := HWHO.out hd
                by_cases hp0 : p = 0
                · exact .inl ⟨rfl, this, hp0⟩
                · exact .inr (.inl ⟨rfl, this, hp0⟩)
              | false =>
                by_cases hx0 : 0 ≤ x
                · by_cases hp0 : p = 0
                  · exact .inr (.inr (.inl ⟨rfl, hx0, hp0⟩))
                  · exact .inr (.inr (.inr (.inl ⟨rfl, hx0, hp0⟩)))
                · have hp0 : p ≠ 0 := fun h => hx0 (by rw [h0 h]; omega)
                  exact .inr (.inr (.inr (.inr ⟨rfl, by omega, hp0⟩)))
            go_upto_region 21 with fail
            go_cut [122] (fun c wx => c = .bool false ∧ Hid (wo.drew = wx))
            case first =>
              clear HZD HPCD HDND
              rcases hfive with h | h | h | h | h
              · as_aux_lemma =>
                obtain ⟨rfl, hx0, hp0⟩ := h
                obtain ⟨a, hax⟩ := Int.eq_ofNat_of_zero_le hx0
                have HAX := Lib.hid hax
                clear hax
                have hxn : ¬ x < 0 := by omega
                have hpp : ¬ (0 : Int) < p := by omega
                have HPD1 : Hid (decide ((0 : Int) < p) = false) := Lib.hid (by rw [decide_eq_false_iff_not]; omega)
                have HPD2 : Hid (decide (0 < p) = false) := Lib.hid (by rw [decide_eq_false_iff_not]; omega)
                clear hp0
                have hxlt := HXL.out
                have hxge := HXG.out
                have hpd1 := HPD1.out
                have hpd2 := HPD2.out
                refine wp_region_plan (Chg NoF wo) 47 [(0,true),(1,true),(2,true),(3,true),(4,true),(5,true),(6,true),(7,true),(8,true),(9,true),(10,true),(11,true),(12,true),(13,true),(14,true),(15,true),(16,true),(17,true),(18,true),(19,true),(20,true),(21,true),(22,true),(23,true),(24,true),(25,true),(26,true),(27,true),(28,true),(29,true),(30,true),(31,true),(32,false),(33,true),(34,true),(35,true),(36,true),(37,true),(38,false),(39,true),(40,true),(41,true),(42,true),(43,true),(44,true),(45,true),(46,true)] mixed (by kernel_rfl) (Chg.refl _ _).drew ?_
                simp only [planOps, List.map_cons, List.map_nil, List.getElem?_cons_zero, List.getElem?_cons_succ, Option.getD_some]
                generalize hops : List.toArray _ = ops
                iterate 6 (refine wpPlan_quiet (v := ?_) rfl (fun _ _ _ h => h) (by intro w1 hS; have s0 := hS.cell_some dP (fun h => h); have s1 := hS.cell_some dN (fun h => h); clear hS; go_simp; with_reducible rfl) ?_; (simp only [Act.put, List.setIfInBounds_toArray, List.set_cons_zero, List.set_cons_succ]))
                iterate 6 (refine wpPlan_quietG (v := ?_) (by rw [← hops]; rfl) (fun _ _ _ h => h) (by intro w1 hS; have s0 := hS.cell_some dP (fun h => h); have s1 := hS.cell_some dN (fun h => h); clear hS; go_simp; with_reducible rfl) ?_; (simp only [Act.put, List.setIfInBounds_toArray, List.set_cons_zero, List.set_cons_succ]))
                iterate 2 (refine wpPlan_quiet (v := ?_) rfl (fun _ _ _ h => h) (by intro w1 hS; clear hS; go_simp; with_reducible rfl) ?_; (simp only [Act.put, List.setIfInBounds_toArray, List.set_cons_zero, List.set_cons_succ]))
                iterate 3 (refine wpPlan_quietG (v := ?_) (by rw [← hops]; rfl) (fun _ _ _ h => h) (by intro w1 hS; clear hS; go_simp; with_reducible rfl) ?_; (simp only [Act.put, List.setIfInBounds_toArray, List.set_cons_zero, List.set_cons_succ]))
                iterate 5 (refine wpPlan_skip (by rw [← hops]; rfl) (fun _ _ _ h => h) ?_; (simp only [Act.put, List.setIfInBounds_toArray, List.set_cons_zero, List.set_cons_succ]))
                iterate 2 (refine wpPlan_quietG (v := ?_) (by rw [← hops]; rfl) (fun _ _ _ h => h) (by intro w1 hS; clear hS; go_simp; with_reducible rfl) ?_; (simp only [Act.put, List.setIfInBounds_toArray, List.set_cons_zero, List.set_cons_succ]))
                iterate 8 (refine wpPlan_skip (by rw [← hops]; rfl) (fun _ _ _ h => h) ?_; (simp only [Act.put, List.setIfInBounds_toArray, List.set_cons_zero, List.set_cons_succ]))
                refine wpPlan_loudN (by rw [← hops]; rfl) (Chg.refl _ _).drew ?_
                (try simp only [Act.put, List.setIfInBounds_toArray, List.set_cons_zero, List.set_cons_succ])
                iterate 1 (refine wpPlan_skip (by rw [← hops]; rfl) (fun _ _ _ h => h) ?_; (simp only [Act.put, List.setIfInBounds_toArray, List.set_cons_zero, List.set_cons_succ]))
                (refine wpPlan_quietG (v := ?_) (by rw [← hops]; rfl) (fun _ _ _ h => h) (by intro w1 hS; clear hS; go_simp; with_reducible rfl) ?_; (simp only [Act.put, List.setIfInBounds_toArray, List.set_cons_zero, List.set_cons_succ]))
                iterate 2 (refine wpPlan_quiet (v := ?_) rfl (fun _ _ _ h => h) (by intro w1 hS; clear hS; go_simp; with_reducible rfl) ?_; (simp only [Act.put, List.setIfInBounds_toArray, List.set_cons_zero, List.set_cons_succ]))
                (refine wpPlan_quietG (v := ?_) (by rw [← hops]; rfl) (fun _ _ _ h => h) (by intro w1 hS; clear hS; go_simp; with_reducible rfl) ?_; (simp only [Act.put, List.setIfInBounds_toArray, List.set_cons_zero, List.set_cons_succ]))
                refine wpPlan_loudG (by rw [← hops]; rfl) (fun K hK => ?_)
                go_simp
                refine (HDA.out wo.drew ((Chg.refl NoF wo).drew)).mono ?_
                rintro e w6 ⟨rfl, rfl⟩
                refine hK _ _ (fun _ => (Chg.refl NoF wo).drew) ?_
                clear hK K
                (try simp only [Act.put, List.setIfInBounds_toArray, List.set_cons_zero, List.set_cons_succ])
                (refine wpPlan_quietG (v := ?_) (by rw [← hops]; rfl) (fun _ _ _ h => h) (by intro w1 hS; clear hS; go_simp; with_reducible rfl) ?_; (simp only [Act.put, List.setIfInBounds_toArray, List.set_cons_zero, List.set_cons_succ]))
                iterate 5 (refine wpPlan_quietG (v := ?_) (by rw [← hops]; rfl) (fun _ _ _ h => h) (by intro w1 hS; have s0 := hS.cell_some dP (fun h => h); have s1 := hS.cell_some dN (fun h => h); clear hS; go_simp; with_reducible rfl) ?_; (simp only [Act.put, List.setIfInBounds_toArray, List.set_cons_zero, List.set_cons_succ]))
                (refine wpPlan_quietG (v := ?_) (by rw [← hops]; rfl) (fun _ _ _ h => h) (by intro w1 hS; clear hS; go_simp; with_reducible rfl) ?_; (simp only [Act.put, List.setIfInBounds_toArray, List.set_cons_zero, List.set_cons_succ]))
                (refine wpPlan_quiet (v := ?_) rfl (fun _ _ _ h => h) (by intro w1 hS; clear hS; go_simp; with_reducible rfl) ?_; (simp only [Act.put, List.setIfInBounds_toArray, List.set_cons_zero, List.set_cons_succ]))
                clear hops
                refine wpPlan_nil ?_
                clear hxlt hxge dP dN hpd1 hpd2
                go_wp2_with fail
                go_meet
                case rel => exact ⟨rfl, Lib.hid rfl⟩
              · as_aux_lemma =>
                obtain ⟨rfl, hx0, hp0⟩ := h
                obtain ⟨a, hax⟩ := Int.eq_ofNat_of_zero_le hx0
                have HAX := Lib.hid hax
                clear hax
                have hxn : ¬ x < 0 := by omega
                have HBT : Hid (bitB np a = true) := Lib.hid (by
                  have h := HNB0.out hp0 (by exact hx0)
                  rw [HAX.out, Int.toNat_natCast] at h
                  rw [bitB_eq]; exact h)
                have han : a ≤ 5 := by have := HAX.out; omega
                have hpp : ¬ (p : Int) ≤ 0 := by omega
                have hpq : (0 : Int) < p := by omega
                have HPD1 : Hid (decide ((0 : Int) < p) = true) := Lib.hid (by rw [decide_eq_true_eq]; omega)
                have HPD2 : Hid (decide (0 < p) = true) := Lib.hid (by rw [decide_eq_true_eq]; omega)
                clear hp0
                have hxlt := HXL.out
                have hxge := HXG.out
                have hpd1 := HPD1.out
                have hpd2 := HPD2.out
                refine wp_region_plan (Chg NoF wo) 47 [(0,true),(1,true),(2,true),(3,true),(4,true),(5,true),(6,true),(7,true),(8,true),(9,true),(10,true),(11,true),(12,true),(13,true),(14,true),(15,true),(16,true),(17,true),(18,true),(19,true),(20,true),(21,true),(22,true),(23,true),(24,true),(25,true),(26,true),(27,true),(28,true),(29,true),(30,true),(31,true),(32,false),(33,true),(34,true),(35,true),(36,true),(37,true),(38,false),(39,true),(40,true),(41,true),(42,true),(43,true),(44,true),(45,true),(46,true)] mixed (by kernel_rfl) (Chg.refl _ _).drew ?_
                simp only [planOps, List.map_cons, List.map_nil, List.getElem?_cons_zero, List.getElem?_cons_succ, Option.getD_some]
                generalize hops : List.toArray _ = ops
                iterate 6 (refine wpPlan_quiet (v := ?_) rfl (fun _ _ _ h => h) (by intro w1 hS; have s0 := hS.cell_some dP (fun h => h); have s1 := hS.cell_some dN (fun h => h); clear hS; go_simp; with_reducible rfl) ?_; (simp only [Act.put, List.setIfInBounds_toArray, List.set_cons_zero, List.set_cons_succ]))
                iterate 6 (refine wpPlan_quietG (v := ?_) (by rw [← hops]; rfl) (fun _ _ _ h => h) (by intro w1 hS; have s0 := hS.cell_some dP (fun h => h); have s1 := hS.cell_some dN (fun h => h); clear hS; go_simp; with_reducible rfl) ?_; (simp only [Act.put, List.setIfInBounds_toArray, List.set_cons_zero, List.set_cons_succ]))
                iterate 2 (refine wpPlan_quiet (v := ?_) rfl (fun _ _ _ h => h) (by intro w1 hS; clear hS; go_simp; with_reducible rfl) ?_; (simp only [Act.put, List.setIfInBounds_toArray, List.set_cons_zero, List.set_cons_succ]))
                iterate 3 (refine wpPlan_quietG (v := ?_) (by rw [← hops]; rfl) (fun _ _ _ h => h) (by intro w1 hS; clear hS; go_simp; with_reducible rfl) ?_; (simp only [Act.put, List.setIfInBounds_toArray, List.set_cons_zero, List.set_cons_succ]))
                iterate 5 (refine wpPlan_quietG (v := ?_) (by rw [← hops]; rfl) (fun _ _ _ h => h) (by intro w1 hS; have s0 := hS.cell_some dP (fun h => h); have s1 := hS.cell_some dN (fun h => h); clear hS; go_simp; with_reducible rfl) ?_; (simp only [Act.put, List.setIfInBounds_toArray, List.set_cons_zero, List.set_cons_succ]))
                iterate 2 (refine wpPlan_quietG (v := ?_) (by rw [← hops]; rfl) (fun _ _ _ h => h) (by intro w1 hS; clear hS; go_simp; with_reducible rfl) ?_; (simp only [Act.put, List.setIfInBounds_toArray, List.set_cons_zero, List.set_cons_succ]))
                iterate 8 (refine wpPlan_quietG (v := ?_) (by rw [← hops]; rfl) (fun _ _ _ h => h) (by intro w1 hS; have s0 := hS.cell_some dP (fun h => h); have s1 := hS.cell_some dN (fun h => h); clear hS; go_simp; with_reducible rfl) ?_; (simp only [Act.put, List.setIfInBounds_toArray, List.set_cons_zero, List.set_cons_succ]))
                refine wpPlan_loudG (by rw [← hops]; rfl) (fun K hK => ?_)
                go_simp
                rw [HAX.out]
                refine (bit_any np a HNP5.out (by omega) _).mono ?_
                rintro e w6 ⟨rfl, rfl⟩
                rw [HBT.out]
                refine hK _ _ (fun _ => (Chg.refl NoF wo).drew) ?_
                clear hK K
                (try simp only [Act.put, List.setIfInBounds_toArray, List.set_cons_zero, List.set_cons_succ])
                (refine wpPlan_quietG (v := ?_) (by rw [← hops]; rfl) (fun _ _ _ h => h) (by intro w1 hS; clear hS; go_simp; with_reducible rfl) ?_; (simp only [Act.put, List.setIfInBounds_toArray, List.set_cons_zero, List.set_cons_succ]))
                (refine wpPlan_quietG (v := ?_) (by rw [← hops]; rfl) (fun _ _ _ h => h) (by intro w1 hS; clear hS; go_simp; with_reducible rfl) ?_; (simp only [Act.put, List.setIfInBounds_toArray, List.set_cons_zero, List.set_cons_succ]))
                iterate 2 (refine wpPlan_quiet (v := ?_) rfl (fun _ _ _ h => h) (by intro w1 hS; clear hS; go_simp; with_reducible rfl) ?_; (simp only [Act.put, List.setIfInBounds_toArray, List.set_cons_zero, List.set_cons_succ]))
                (refine wpPlan_quietG (v := ?_) (by rw [← hops]; rfl) (fun _ _ _ h => h) (by intro w1 hS; clear hS; go_simp; with_reducible rfl) ?_; (simp only [Act.put, List.setIfInBounds_toArray, List.set_cons_zero, List.set_cons_succ]))
                refine wpPlan_loudG (by rw [← hops]; rfl) (fun K hK => ?_)
                go_simp
                refine (HDA.out wo.drew ((Chg.refl NoF wo).drew)).mono ?_
                rintro e w6 ⟨rfl, rfl⟩
                refine hK _ _ (fun _ => (Chg.refl NoF wo).drew) ?_
                clear hK K
                (try simp only [Act.put, List.setIfInBounds_toArray, List.set_cons_zero, List.set_cons_succ])
                (refine wpPlan_quietG (v := ?_) (by rw [← hops]; rfl) (fun _ _ _ h => h) (by intro w1 hS; clear hS; go_simp; with_reducible rfl) ?_; (simp only [Act.put, List.setIfInBounds_toArray, List.set_cons_zero, List.set_cons_succ]))
                iterate 5 (refine wpPlan_quietG (v := ?_) (by rw [← hops]; rfl) (fun _ _ _ h => h) (by intro w1 hS; have s0 := hS.cell_some dP (fun h => h); have s1 := hS.cell_some dN (fun h => h); clear hS; go_simp; with_reducible rfl) ?_; (simp only [Act.put, List.setIfInBounds_toArray, List.set_cons_zero, List.set_cons_succ]))
                (refine wpPlan_quietG (v := ?_) (by rw [← hops]; rfl) (fun _ _ _ h => h) (by intro w1 hS; clear hS; go_simp; with_reducible rfl) ?_; (simp only [Act.put, List.setIfInBounds_toArray, List.set_cons_zero, List.set_cons_succ]))
                (refine wpPlan_quiet (v := ?_) rfl (fun _ _ _ h => h) (by intro w1 hS; clear hS; go_simp; with_reducible rfl) ?_; (simp only [Act.put, List.setIfInBounds_toArray, List.set_cons_zero, List.set_cons_succ]))
                clear hops
                refine wpPlan_nil ?_
                clear hxlt hxge dP dN hpd1 hpd2
                go_wp2_with fail
                go_meet
                case rel => exact ⟨rfl, Lib.hid rfl⟩
              · as_aux_lemma =>
                obtain ⟨rfl, hx0, hp0⟩ := h
                obtain ⟨a, hax⟩ := Int.eq_ofNat_of_zero_le hx0
                have HAX := Lib.hid hax
                clear hax
                have hxn : ¬ x < 0 := by omega
                have hpp : ¬ (0 : Int) < p := by omega
                have HPD1 : Hid (decide ((0 : Int) < p) = false) := Lib.hid (by rw [decide_eq_false_iff_not]; omega)
                have HPD2 : Hid (decide (0 < p) = false) := Lib.hid (by rw [decide_eq_false_iff_not]; omega)
                clear hp0
                have hxlt := HXL.out
                have hxge := HXG.out
                have hpd1 := HPD1.out
                have hpd2 := HPD2.out
                refine wp_region_plan (Chg NoF wo) 47 [(0,true),(1,true),(2,true),(3,true),(4,true),(5,true),(6,true),(7,true),(8,true),(9,true),(10,true),(11,true),(12,true),(13,true),(14,true),(15,true),(16,true),(17,true),(18,true),(19,true),(20,true),(21,true),(22,true),(23,true),(24,true),(25,true),(26,true),(27,true),(28,true),(29,true),(30,true),(31,true),(32,false),(33,true),(34,true),(35,true),(36,true),(37,true),(38,false),(39,true),(40,true),(41,true),(42,true),(43,true),(44,true),(45,true),(46,true)] mixed (by kernel_rfl) (Chg.refl _ _).drew ?_
                simp only [planOps, List.map_cons, List.map_nil, List.getElem?_cons_zero, List.getElem?_cons_succ, Option.getD_some]
                generalize hops : List.toArray _ = ops
                iterate 6 (refine wpPlan_quiet (v := ?_) rfl (fun _ _ _ h => h) (by intro w1 hS; have s0 := hS.cell_some dP (fun h => h); have s1 := hS.cell_some dN (fun h => h); clear hS; go_simp; with_reducible rfl) ?_; (simp only [Act.put, List.setIfInBounds_toArray, List.set_cons_zero, List.set_cons_succ]))
                iterate 6 (refine wpPlan_quietG (v := ?_) (by rw [← hops]; rfl) (fun _ _ _ h => h) (by intro w1 hS; have s0 := hS.cell_some dP (fun h => h); have s1 := hS.cell_some dN (fun h => h); clear hS; go_simp; with_reducible rfl) ?_; (simp only [Act.put, List.setIfInBounds_toArray, List.set_cons_zero, List.set_cons_succ]))
                iterate 2 (refine wpPlan_quiet (v := ?_) rfl (fun _ _ _ h => h) (by intro w1 hS; clear hS; go_simp; with_reducible rfl) ?_; (simp only [Act.put, List.setIfInBounds_toArray, List.set_cons_zero, List.set_cons_succ]))
                iterate 3 (refine wpPlan_quietG (v := ?_) (by rw [← hops]; rfl) (fun _ _ _ h => h) (by intro w1 hS; clear hS; go_simp; with_reducible rfl) ?_; (simp only [Act.put, List.setIfInBounds_toArray, List.set_cons_zero, List.set_cons_succ]))
                iterate 5 (refine wpPlan_skip (by rw [← hops]; rfl) (fun _ _ _ h => h) ?_; (simp only [Act.put, List.setIfInBounds_toArray, List.set_cons_zero, List.set_cons_succ]))
                iterate 2 (refine wpPlan_quietG (v := ?_) (by rw [← hops]; rfl) (fun _ _ _ h => h) (by intro w1 hS; clear hS; go_simp; with_reducible rfl) ?_; (simp only [Act.put, List.setIfInBounds_toArray, List.set_cons_zero, List.set_cons_succ]))
                iterate 8 (refine wpPlan_skip (by rw [← hops]; rfl) (fun _ _ _ h => h) ?_; (simp only [Act.put, List.setIfInBounds_toArray, List.set_cons_zero, List.set_cons_succ]))
                refine wpPlan_loudN (by rw [← hops]; rfl) (Chg.refl _ _).drew ?_
                (try simp only [Act.put, List.setIfInBounds_toArray, List.set_cons_zero, List.set_cons_succ])
                iterate 1 (refine wpPlan_skip (by rw [← hops]; rfl) (fun _ _ _ h => h) ?_; (simp only [Act.put, List.setIfInBounds_toArray, List.set_cons_zero, List.set_cons_succ]))
                (refine wpPlan_quietG (v := ?_) (by rw [← hops]; rfl) (fun _ _ _ h => h) (by intro w1 hS; clear hS; go_simp; with_reducible rfl) ?_; (simp only [Act.put, List.setIfInBounds_toArray, List.set_cons_zero, List.set_cons_succ]))
                iterate 2 (refine wpPlan_quiet (v := ?_) rfl (fun _ _ _ h => h) (by intro w1 hS; clear hS; go_simp; with_reducible rfl) ?_; (simp only [Act.put, List.setIfInBounds_toArray, List.set_cons_zero, List.set_cons_succ]))
                (refine wpPlan_quietG (v := ?_) (by rw [← hops]; rfl) (fun _ _ _ h => h) (by intro w1 hS; clear hS; go_simp; with_reducible rfl) ?_; (simp only [Act.put, List.setIfInBounds_toArray, List.set_cons_zero, List.set_cons_succ]))
                refine wpPlan_loudG (by rw [← hops]; rfl) (fun K hK => ?_)
                go_simp
                refine (HDA.out wo.drew ((Chg.refl NoF wo).drew)).mono ?_
                rintro e w6 ⟨rfl, rfl⟩
                refine hK _ _ (fun _ => (Chg.refl NoF wo).drew) ?_
                clear hK K
                (try simp only [Act.put, List.setIfInBounds_toArray, List.set_cons_zero, List.set_cons_succ])
                (refine wpPlan_quietG (v := ?_) (by rw [← hops]; rfl) (fun _ _ _ h => h) (by intro w1 hS; clear hS; go_simp; with_reducible rfl) ?_; (simp only [Act.put, List.setIfInBounds_toArray, List.set_cons_zero, List.set_cons_succ]))
                iterate 5 (refine wpPlan_skip (by rw [← hops]; rfl) (fun _ _ _ h => h) ?_; (simp only [Act.put, List.setIfInBounds_toArray, List.set_cons_zero, List.set_cons_succ]))
                (refine wpPlan_quietG (v := ?_) (by rw [← hops]; rfl) (fun _ _ _ h => h) (by intro w1 hS; clear hS; go_simp; with_reducible rfl) ?_; (simp only [Act.put, List.setIfInBounds_toArray, List.set_cons_zero, List.set_cons_succ]))
                (refine wpPlan_quiet (v := ?_) rfl (fun _ _ _ h => h) (by intro w1 hS; clear hS; go_simp; with_reducible rfl) ?_; (simp only [Act.put, List.setIfInBounds_toArray, List.set_cons_zero, List.set_cons_succ]))
                clear hops
                refine wpPlan_nil ?_
                clear hxlt hxge dP dN hpd1 hpd2
                go_wp2_with fail
                go_meet
                case rel => exact ⟨rfl, Lib.hid rfl⟩
              · as_aux_lemma =>
                obtain ⟨rfl, hx0, hp0⟩ := h
                obtain ⟨a, hax⟩ := Int.eq_ofNat_of_zero_le hx0
                have HAX := Lib.hid hax
                clear hax
                have hxn : ¬ x < 0 := by omega
                have HBT : Hid (bitB np a = true) := Lib.hid (by
                  have h := HNB0.out hp0 (by exact hx0)
                  rw [HAX.out, Int.toNat_natCast] at h
                  rw [bitB_eq]; exact h)
                have han : a ≤ 5 := by have := HAX.out; omega
                have hpp : ¬ (p : Int) ≤ 0 := by omega
                have hpq : (0 : Int) < p := by omega
                have HPD1 : Hid (decide ((0 : Int) < p) = true) := Lib.hid (by rw [decide_eq_true_eq]; omega)
                have HPD2 : Hid (decide (0 < p) = true) := Lib.hid (by rw [decide_eq_true_eq]; omega)
                clear hp0
                have hxlt := HXL.out
                have hxge := HXG.out
                have hpd1 := HPD1.out
                have hpd2 := HPD2.out
                refine wp_region_plan (Chg NoF wo) 47 [(0,true),(1,true),(2,true),(3,true),(4,true),(5,true),(6,true),(7,true),(8,true),(9,true),(10,true),(11,true),(12,true),(13,true),(14,true),(15,true),(16,true),(17,true),(18,true),(19,true),(20,true),(21,true),(22,true),(23,true),(24,true),(25,true),(26,true),(27,true),(28,true),(29,true),(30,true),(31,true),(32,false),(33,true),(34,true),(35,true),(36,true),(37,true),(38,false),(39,true),(40,true),(41,true),(42,true),(43,true),(44,true),(45,true),(46,true)] mixed (by kernel_rfl) (Chg.refl _ _).drew ?_
                simp only [planOps, List.map_cons, List.map_nil, List.getElem?_cons_zero, List.getElem?_cons_succ, Option.getD_some]
                generalize hops : List.toArray _ = ops
                iterate 6 (refine wpPlan_quiet (v := ?_) rfl (fun _ _ _ h => h) (by intro w1 hS; have s0 := hS.cell_some dP (fun h => h); have s1 := hS.cell_some dN (fun h => h); clear hS; go_simp; with_reducible rfl) ?_; (simp only [Act.put, List.setIfInBounds_toArray, List.set_cons_zero, List.set_cons_succ]))
                iterate 6 (refine wpPlan_quietG (v := ?_) (by rw [← hops]; rfl) (fun _ _ _ h => h) (by intro w1 hS; have s0 := hS.cell_some dP (fun h => h); have s1 := hS.cell_some dN (fun h => h); clear hS; go_simp; with_reducible rfl) ?_; (simp only [Act.put, List.setIfInBounds_toArray, List.set_cons_zero, List.set_cons_succ]))
                iterate 2 (refine wpPlan_quiet (v := ?_) rfl (fun _ _ _ h => h) (by intro w1 hS; clear hS; go_simp; with_reducible rfl) ?_; (simp only [Act.put, List.setIfInBounds_toArray, List.set_cons_zero, List.set_cons_succ]))
                iterate 3 (refine wpPlan_quietG (v := ?_) (by rw [← hops]; rfl) (fun _ _ _ h => h) (by intro w1 hS; clear hS; go_simp; with_reducible rfl) ?_; (simp only [Act.put, List.setIfInBounds_toArray, List.set_cons_zero, List.set_cons_succ]))
                iterate 5 (refine wpPlan_quietG (v := ?_) (by rw [← hops]; rfl) (fun _ _ _ h => h) (by intro w1 hS; have s0 := hS.cell_some dP (fun h => h); have s1 := hS.cell_some dN (fun h => h); clear hS; go_simp; with_reducible rfl) ?_; (simp only [Act.put, List.setIfInBounds_toArray, List.set_cons_zero, List.set_cons_succ]))
                iterate 2 (refine wpPlan_quietG (v := ?_) (by rw [← hops]; rfl) (fun _ _ _ h => h) (by intro w1 hS; clear hS; go_simp; with_reducible rfl) ?_; (simp only [Act.put, List.setIfInBounds_toArray, List.set_cons_zero, List.set_cons_succ]))
                iterate 8 (refine wpPlan_quietG (v := ?_) (by rw [← hops]; rfl) (fun _ _ _ h => h) (by intro w1 hS; have s0 := hS.cell_some dP (fun h => h); have s1 := hS.cell_some dN (fun h => h); clear hS; go_simp; with_reducible rfl) ?_; (simp only [Act.put, List.setIfInBounds_toArray, List.set_cons_zero, List.set_cons_succ]))
                refine wpPlan_loudG (by rw [← hops]; rfl) (fun K hK => ?_)
                go_simp
                rw [HAX.out]
                refine (bit_any np a HNP5.out (by omega) _).mono ?_
                rintro e w6 ⟨rfl, rfl⟩
                rw [HBT.out]
                refine hK _ _ (fun _ => (Chg.refl NoF wo).drew) ?_
                clear hK K
                (try simp only [Act.put, List.setIfInBounds_toArray, List.set_cons_zero, List.set_cons_succ])
                (refine wpPlan_quietG (v := ?_) (by rw [← hops]; rfl) (fun _ _ _ h => h) (by intro w1 hS; clear hS; go_simp; with_reducible rfl) ?_; (simp only [Act.put, List.setIfInBounds_toArray, List.set_cons_zero, List.set_cons_succ]))
                (refine wpPlan_quietG (v := ?_) (by rw [← hops]; rfl) (fun _ _ _ h => h) (by intro w1 hS; clear hS; go_simp; with_reducible rfl) ?_; (simp only [Act.put, List.setIfInBounds_toArray, List.set_cons_zero, List.set_cons_succ]))
                iterate 2 (refine wpPlan_quiet (v := ?_) rfl (fun _ _ _ h => h) (by intro w1 hS; clear hS; go_simp; with_reducible rfl) ?_; (simp only [Act.put, List.setIfInBounds_toArray, List.set_cons_zero, List.set_cons_succ]))
                (refine wpPlan_quietG (v := ?_) (by rw [← hops]; rfl) (fun _ _ _ h => h) (by intro w1 hS; clear hS; go_simp; with_reducible rfl) ?_; (simp only [Act.put, List.setIfInBounds_toArray, List.set_cons_zero, List.set_cons_succ]))
                refine wpPlan_loudG (by rw [← hops]; rfl) (fun K hK => ?_)
                go_simp
                refine (HDA.out wo.drew ((Chg.refl NoF wo).drew)).mono ?_
                rintro e w6 ⟨rfl, rfl⟩
                refine hK _ _ (fun _ => (Chg.refl NoF wo).drew) ?_
                clear hK K
                (try simp only [Act.put, List.setIfInBounds_toArray, List.set_cons_zero, List.set_cons_succ])
                (refine wpPlan_quietG (v := ?_) (by rw [← hops]; rfl) (fun _ _ _ h => h) (by intro w1 hS; clear hS; go_simp; with_reducible rfl) ?_; (simp only [Act.put, List.setIfInBounds_toArray, List.set_cons_zero, List.set_cons_succ]))
                iterate 5 (refine wpPlan_skip (by rw [← hops]; rfl) (fun _ _ _ h => h) ?_; (simp only [Act.put, List.setIfInBounds_toArray, List.set_cons_zero, List.set_cons_succ]))
                (refine wpPlan_quietG (v := ?_) (by rw [← hops]; rfl) (fun _ _ _ h => h) (by intro w1 hS; clear hS; go_simp; with_reducible rfl) ?_; (simp only [Act.put, List.setIfInBounds_toArray, List.set_cons_zero, List.set_cons_succ]))
                (refine wpPlan_quiet (v := ?_) rfl (fun _ _ _ h => h) (by intro w1 hS; clear hS; go_simp; with_reducible rfl) ?_; (simp only [Act.put, List.setIfInBounds_toArray, List.set_cons_zero, List.set_cons_succ]))
                clear hops
                refine wpPlan_nil ?_
                clear hxlt hxge dP dN hpd1 hpd2
                go_wp2_with fail
                go_meet
                case rel => exact ⟨rfl, Lib.hid rfl⟩
              · as_aux_lemma =>
                obtain ⟨rfl, hx0, hp0⟩ := h
                have HXC : Hid (decide ((0 : Int) ≤ x) = false) := Lib.hid (by rw [decide_eq_false_iff_not]; omega)
                have HXC2 : Hid (x < 0) := Lib.hid (by omega)
                have HXM := Lib.hid hx0
                clear hx0
                have hpp : ¬ (p : Int) ≤ 0 := by omega
                have hpq : (0 : Int) < p := by omega
                have HPD1 : Hid (decide ((0 : Int) < p) = true) := Lib.hid (by rw [decide_eq_true_eq]; omega)
                have HPD2 : Hid (decide (0 < p) = true) := Lib.hid (by rw [decide_eq_true_eq]; omega)
                clear hp0
                have hxlt := HXL.out
                have hxge := HXG.out
                have hpd1 := HPD1.out
                have hpd2 := HPD2.out
                have hxc := HXC.out
                refine wp_region_plan (Chg NoF wo) 47 [(0,true),(1,true),(2,true),(3,true),(4,true),(5,true),(6,true),(7,true),(8,true),(9,true),(10,true),(11,true),(12,true),(13,true),(14,true),(15,true),(16,true),(17,true),(18,true),(19,true),(20,true),(21,true),(22,true),(23,true),(24,true),(25,true),(26,true),(27,true),(28,true),(29,true),(30,true),(31,true),(32,false),(33,true),(34,true),(35,true),(36,true),(37,true),(38,false),(39,true),(40,true),(41,true),(42,true),(43,true),(44,true),(45,true),(46,true)] mixed (by kernel_rfl) (Chg.refl _ _).drew ?_
                simp only [planOps, List.map_cons, List.map_nil, List.getElem?_cons_zero, List.getElem?_cons_succ, Option.getD_some]
                generalize hops : List.toArray _ = ops
                iterate 6 (refine wpPlan_quiet (v := ?_) rfl (fun _ _ _ h => h) (by intro w1 hS; have s0 := hS.cell_some dP (fun h => h); have s1 := hS.cell_some dN (fun h => h); clear hS; go_simp; with_reducible rfl) ?_; (simp only [Act.put, List.setIfInBounds_toArray, List.set_cons_zero, List.set_cons_succ]))
                iterate 6 (refine wpPlan_quietG (v := ?_) (by rw [← hops]; rfl) (fun _ _ _ h => h) (by intro w1 hS; have s0 := hS.cell_some dP (fun h => h); have s1 := hS.cell_some dN (fun h => h); clear hS; go_simp; with_reducible rfl) ?_; (simp only [Act.put, List.setIfInBounds_toArray, List.set_cons_zero, List.set_cons_succ]))
                iterate 2 (refine wpPlan_quiet (v := ?_) rfl (fun _ _ _ h => h) (by intro w1 hS; clear hS; go_simp; with_reducible rfl) ?_; (simp only [Act.put, List.setIfInBounds_toArray, List.set_cons_zero, List.set_cons_succ]))
                iterate 3 (refine wpPlan_quietG (v := ?_) (by rw [← hops]; rfl) (fun _ _ _ h => h) (by intro w1 hS; clear hS; go_simp; with_reducible rfl) ?_; (simp only [Act.put, List.setIfInBounds_toArray, List.set_cons_zero, List.set_cons_succ]))
                iterate 5 (refine wpPlan_quietG (v := ?_) (by rw [← hops]; rfl) (fun _ _ _ h => h) (by intro w1 hS; have s0 := hS.cell_some dP (fun h => h); have s1 := hS.cell_some dN (fun h => h); clear hS; go_simp; with_reducible rfl) ?_; (simp only [Act.put, List.setIfInBounds_toArray, List.set_cons_zero, List.set_cons_succ]))
                iterate 2 (refine wpPlan_quietG (v := ?_) (by rw [← hops]; rfl) (fun _ _ _ h => h) (by intro w1 hS; clear hS; go_simp; with_reducible rfl) ?_; (simp only [Act.put, List.setIfInBounds_toArray, List.set_cons_zero, List.set_cons_succ]))
                iterate 8 (refine wpPlan_skip (by rw [← hops]; rfl) (fun _ _ _ h => h) ?_; (simp only [Act.put, List.setIfInBounds_toArray, List.set_cons_zero, List.set_cons_succ]))
                refine wpPlan_loudN (by rw [← hops]; rfl) (Chg.refl _ _).drew ?_
                (try simp only [Act.put, List.setIfInBounds_toArray, List.set_cons_zero, List.set_cons_succ])
                iterate 1 (refine wpPlan_skip (by rw [← hops]; rfl) (fun _ _ _ h => h) ?_; (simp only [Act.put, List.setIfInBounds_toArray, List.set_cons_zero, List.set_cons_succ]))
                (refine wpPlan_quietG (v := ?_) (by rw [← hops]; rfl) (fun _ _ _ h => h) (by intro w1 hS; clear hS; go_simp; with_reducible rfl) ?_; (simp only [Act.put, List.setIfInBounds_toArray, List.set_cons_zero, List.set_cons_succ]))
                iterate 2 (refine wpPlan_quiet (v := ?_) rfl (fun _ _ _ h => h) (by intro w1 hS; clear hS; go_simp; with_reducible rfl) ?_; (simp only [Act.put, List.setIfInBounds_toArray, List.set_cons_zero, List.set_cons_succ]))
                (refine wpPlan_quietG (v := ?_) (by rw [← hops]; rfl) (fun _ _ _ h => h) (by intro w1 hS; clear hS; go_simp; with_reducible rfl) ?_; (simp only [Act.put, List.setIfInBounds_toArray, List.set_cons_zero, List.set_cons_succ]))
                refine wpPlan_loudG (by rw [← hops]; rfl) (fun K hK => ?_)
                go_simp
                refine (HDA.out wo.drew ((Chg.refl NoF wo).drew)).mono ?_
                rintro e w6 ⟨rfl, rfl⟩
                refine hK _ _ (fun _ => (Chg.refl NoF wo).drew) ?_
                clear hK K
                (try simp only [Act.put, List.setIfInBounds_toArray, List.set_cons_zero, List.set_cons_succ])
                (refine wpPlan_quietG (v := ?_) (by rw [← hops]; rfl) (fun _ _ _ h => h) (by intro w1 hS; clear hS; go_simp; with_reducible rfl) ?_; (simp only [Act.put, List.setIfInBounds_toArray, List.set_cons_zero, List.set_cons_succ]))
                iterate 5 (refine wpPlan_skip (by rw [← hops]; rfl) (fun _ _ _ h => h) ?_; (simp only [Act.put, List.setIfInBounds_toArray, List.set_cons_zero, List.set_cons_succ]))
                (refine wpPlan_quietG (v := ?_) (by rw [← hops]; rfl) (fun _ _ _ h => h) (by intro w1 hS; clear hS; go_simp; with_reducible rfl) ?_; (simp only [Act.put, List.setIfInBounds_toArray, List.set_cons_zero, List.set_cons_succ]))
                (refine wpPlan_quiet (v := ?_) rfl (fun _ _ _ h => h) (by intro w1 hS; clear hS; go_simp; with_reducible rfl) ?_; (simp only [Act.put, List.setIfInBounds_toArray, List.set_cons_zero, List.set_cons_succ]))
                clear hops
                refine wpPlan_nil ?_
                clear hxlt hxge dP dN hpd1 hpd2
                clear hxc
                have hxc2 := HXC2.out
                go_wp2_with fail
                go_meet
                case rel => exact ⟨rfl, Lib.hid rfl⟩
            case rest =>
              obtain ⟨rfl, HWC0⟩ := hcut
              have ewc := HWC0.out
              subst ewc
              have HXZ : Hid ((0 ≤ x ∧ ∃ a : Nat, x = a ∧ a < n) ∨ x = -1) := Lib.hid (by
                by_cases h : 0 ≤ x
                · exact .inl ⟨h, x.toNat, by omega, by omega⟩
                · exact .inr (by omega))
              clear hfive dP dN
              have HROW : Hid (∀ q, q < n → 0 ≤ s2.ways p q ∧ s2.ways p q ≤ 1) := Lib.hid fun q hq => HIV.out.way01 hps (by rw [HSN.out]; exact hq)
              have HNPT : Hid (∀ q, np.testBit q = s2.nr p q) := Lib.hid fun q => by unfold Wv.nr; rw [HNP.out]
              have hpm : (p : Int) ≥ 0 := Int.natCast_nonneg p
              have HXB : Hid (-1 ≤ x ∧ x < n) := Lib.hid ⟨by omega, by omega⟩
              clear hx1 hx2
              generalize wo.drew = wq at *
              go_upto_block 4 with fail
              go_cut [14, 15] (fun up kk wx => ∃ u : Int, up = .int .i64 u ∧ Hid (0 ≤ x → u = 0) ∧ Hid (wq = wx))
              case first =>
                as_aux_lemma =>
                go_wp2_with fail
                go_loopw [15, 14] (fun i up wr => ∃ k : Nat, k ≤ n ∧ i = .int .i64 k ∧ up = .int .i64 (s2.up p k) ∧ Hid (wq = wr)) (fun i _ _ => n - (intOf i).toNat)
                case atStart => exact ⟨0, Nat.zero_le _, rfl, rfl, Lib.hid rfl⟩
                case round =>
                  obtain ⟨k, hkn, rfl, rfl, HWE⟩ := hrel
                  have ew := HWE.out
                  subst ew
                  obtain ⟨hu1, hu2⟩ := HIV.out.upR hps k
                  obtain ⟨u, HU⟩ : ∃ x, Hid (s2.up p k = x) := ⟨_, Lib.hid rfl⟩
                  rw [HU.out] at hu1 hu2 ⊢
                  rw [HSN.out] at hu2
                  by_cases hlt : k < n ∧ 0 < u
                  · obtain ⟨hk, hu⟩ := hlt
                    obtain ⟨a, rfl⟩ := Int.eq_ofNat_of_zero_le (show 0 ≤ u by omega)
                    have hk1 : (k : Int) < n := by omega
                    have HKN : Hid (k + 1 ≤ n) := Lib.hid hk
                    have dA := HPCD.out a (by omega)
                    obtain ⟨pa, HPA⟩ : ∃ x, Hid (s2.parent a = x) := ⟨_, Lib.hid rfl⟩
                    rw [HPA.out] at dA
                    have HNX : Hid (s2.up p (k + 1) = pa) := Lib.hid (by
                      rw [Wv.up, HU.out, if_pos hu, Int.toNat_natCast, HPA.out])
                    have ha0 : (0 : Int) ≤ a := by omega
                    clear hk hu1
                    go_wp2
                    go_roundw
                    case rel => exact ⟨k + 1, HKN.out, by go_num, by rw [HNX.out], by first | exact HWE | exact Lib.hid trivial⟩
                    case measure => have := HKN.out; simp [intOf]; omega
                  · have HUZ : Hid (0 ≤ x → u = 0) := Lib.hid fun h => by
                      have h1 := HRDP.out h
                      by_cases hk : k < n
                      · have h2 := up_stop (s := s2) (p := p) (k := k) (by rw [HU.out]; exact fun h => hlt ⟨hk, h⟩) (n - k)
                        rw [show k + (n - k) = n by omega, HU.out] at h2
                        rw [← h2]; exact h1
                      · have : k = n := by omega
                        rw [this, h1] at HU
                        exact HU.out.symm
                    have hb : ¬ (k : Int) < n ∨ ((k : Int) < n ∧ ¬ 0 < u) := by omega
                    clear hlt hu1 hu2 hkn
                    rcases hb with hb | ⟨hb, hb2⟩
                    all_goals
                      go_wp2_with fail
                      go_meet
                      case rel => exact ⟨u, rfl, HUZ, Lib.hid rfl⟩
              case rest =>
                obtain ⟨u, rfl, HUZ, HWE0⟩ := hcut
                have ewc := HWE0.out
                subst ewc
                have dX := HPCD.out p hp
                rw [HX.out] at dX
                go_upto_region 28 with fail
                go_cut [145] (fun c wx => c = .bool false ∧ Hid (wq = wx))
                case first =>
                  by_cases hx0 : 0 ≤ x
                  · have hu0 := HUZ.out hx0
                    subst hu0
                    clear HUZ
                    go_wp2_with fail
                    go_meet
                    case rel => exact ⟨rfl, Lib.hid rfl⟩
                  · have hxc : decide ((0 : Int) ≤ x) = false := decide_eq_false hx0
                    clear hx0
                    go_wp2_with fail
                    go_meet
                    case rel => exact ⟨rfl, Lib.hid rfl⟩
                case rest =>
                  obtain ⟨rfl, HWE0⟩ := hcut
                  have ewc := HWE0.out
                  subst ewc
                  clear dX
                  as_aux_lemma =>
                  go_wp2_with fail
                  go_loopw [16, 11, 12] (fun i wy lf wr => ∃ q : Nat, q ≤ n ∧ i = .int .i64 q ∧ wy = .int .i64 (W0 + sumN q fun b => b2i (s2.nr p b)) ∧ lf = .int .i64 (L0 + sumN q fun b => s2.ways p b) ∧ Hid (wq = wr)) (fun i _ _ _ => n - (intOf i).toNat)
                  case atStart => exact ⟨0, Nat.zero_le _, rfl, by simp [sumN], by simp [sumN], Lib.hid rfl⟩
                  case round =>
                    obtain ⟨q, hqn, rfl, rfl, rfl, HWE2⟩ := hrel
                    have ew := HWE2.out
                    subst ew
                    have hsm1 := bit_sum q (by omega) (fun b => s2.nr p b)
                    have hsm2 := HIV.out.wayRow hps (q := q) (by rw [HSN.out]; exact hqn)
                    obtain ⟨Wc, HWC⟩ : ∃ x, Hid ((W0 + sumN q fun b => b2i (s2.nr p b)) = x) := ⟨_, Lib.hid rfl⟩
                    obtain ⟨Lc, HLC⟩ : ∃ x, Hid ((L0 + sumN q fun b => s2.ways p b) = x) := ⟨_, Lib.hid rfl⟩
                    have hwc : 0 ≤ Wc ∧ Wc ≤ 30 := by have := HWB.out; rw [← HWC.out]; omega
                    have hlc : 0 ≤ Lc ∧ Lc ≤ 30 := by have := HLB.out; rw [← HLC.out]; omega
                    rw [HWC.out, HLC.out]
                    by_cases hq : q < n
                    · have hq1 : (q : Int) < n := by omega
                      have HQN : Hid (q + 1 ≤ n) := Lib.hid hq
                      have HBI := Lib.hid (bit_any np q HNP5.out (by omega) wq)
                      rw [bitB_eq, HNPT.out] at HBI
                      have HWA := Lib.hid (way_any _ wq t s2 HZD.out.1.2.2.1 HIV.out.net.n1 HIV.out.net.n5 p q hps (by rw [HSN.out]; exact hq))
                      obtain ⟨hz0, hz1⟩ := HROW.out q hq
                      have dM := HDND.out
                      have HS1 : Hid ((W0 + sumN (q + 1) fun b => b2i (s2.nr p b)) = Wc + b2i (s2.nr p q)) := Lib.hid (by rw [← HWC.out]; simp only [sumN]; omega)
                      have HS2 : Hid ((L0 + sumN (q + 1) fun b => s2.ways p b) = Lc + s2.ways p q) := Lib.hid (by rw [← HLC.out]; simp only [sumN]; omega)
                      obtain ⟨z, HZZ⟩ : ∃ x, Hid (s2.ways p q = x) := ⟨_, Lib.hid rfl⟩
                      rw [HZZ.out] at HWA HS2 hz0 hz1
                      have hw1 : wrap64 (Wc + 1) = Wc + 1 := IntWalk.wrap64_in _ (by omega)
                      have hw2 : wrap64 (Lc + z) = Lc + z := IntWalk.wrap64_in _ (by omega)
                      have hz2 : ¬ z < 0 := by omega
                      have hz3 : ¬ (1 : Int) < z := by omega
                      obtain ⟨bt, HBT2⟩ : ∃ x, Hid (s2.nr p q = x) := ⟨_, Lib.hid rfl⟩
                      rw [HBT2.out] at HBI HS1
                      clear hsm1 hsm2 hwc hlc hq
                      cases bt with
                      | true =>
                        go_wp2_with fail
                        refine HBI.out.mono ?_
                        rintro e w' ⟨rfl, rfl⟩
                        go_wp2_with fail
                        refine HWA.out.mono ?_
                        rintro e w' ⟨rfl, rfl⟩
                        go_wp2_with fail
                        refine HWA.out.mono ?_
                        rintro e w' ⟨rfl, rfl⟩
                        go_wp2_with fail
                        refine HWA.out.mono ?_
                        rintro e w' ⟨rfl, rfl⟩
                        go_wp2
                        go_roundw
                        case rel => exact ⟨q + 1, HQN.out, by go_num, by rw [HS1.out]; rfl, by rw [HS2.out]; first | rfl | rw [hw2], by first | exact HWE2 | exact Lib.hid trivial⟩
                        case measure => have := HQN.out; simp [intOf]; omega
                      | false =>
                        go_wp2_with fail
                        refine HBI.out.mono ?_
                        rintro e w' ⟨rfl, rfl⟩
                        go_wp2_with fail
                        refine HWA.out.mono ?_
                        rintro e w' ⟨rfl, rfl⟩
                        go_wp2_with fail
                        refine HWA.out.mono ?_
                        rintro e w' ⟨rfl, rfl⟩
                        go_wp2_with fail
                        refine HWA.out.mono ?_
                        rintro e w' ⟨rfl, rfl⟩
                        go_wp2
                        go_roundw
                        case rel => exact ⟨q + 1, HQN.out, by go_num, by rw [HS1.out]; simp [b2i], by rw [HS2.out]; first | rfl | rw [hw2], by first | exact HWE2 | exact Lib.hid trivial⟩
                        case measure => have := HQN.out; simp [intOf]; omega
                    · have hq1 : ¬ (q : Int) < n := by omega
                      have HE1 : Hid (s2.manyTo (p + 1) = Wc) := Lib.hid (by
                        rw [← HWC.out, ← HW0.out, show q = n by omega, ← HSN.out]; rfl)
                      have HE2 : Hid (s2.leftTo (p + 1) = Lc) := Lib.hid (by
                        rw [← HLC.out, ← HL0.out, show q = n by omega, ← HSN.out]; rfl)
                      clear hsm1 hsm2 hwc hlc hq hqn
                      go_wp2
                      go_roundw
                      case rel => first | exact ⟨p + 1, HPN.out, by go_num, by rw [HE1.out], by rw [HE2.out], HZD⟩ | ((repeat apply Exists.intro); exact ⟨⟨p + 1, HPN.out, by go_num, by rw [HE1.out], by rw [HE2.out], HZD⟩, rfl⟩)
                      case measure => have := HPN.out; simp [intOf]; omega
          · as_aux_lemma =>
            have hp1 : ¬ (p : Int) < n := by omega
            obtain ⟨wo, rfl⟩ : ∃ x, x = wr := ⟨_, rfl⟩
            have hpe : p = s2.n := by rw [HSN.out]; omega
            have HM : Hid (s2.many = W0) := Lib.hid (by rw [← HW0.out, hpe]; rfl)
            have HLF : Hid (s2.left = L0) := Lib.hid (by rw [← HL0.out, hpe]; rfl)
            have HSE := Lib.hid (sent_any _ wo t s2 HZ.out.1.2.2.1)
            have HDO := Lib.hid (done_any _ wo t s2 HZ.out.1.2.2.1)
            have hle := HIV.out.sentLe
            have HEQ := Lib.hid HIV.out.sentEq
            obtain ⟨y, HY⟩ : ∃ x, Hid (s2.sent = x) := ⟨_, Lib.hid rfl⟩
            obtain ⟨dn, HDN⟩ : ∃ x, Hid (s2.done = x) := ⟨_, Lib.hid rfl⟩
            rw [HY.out] at HSE
            rw [HY.out, HM.out] at hle HEQ
            rw [HLF.out] at HEQ
            rw [HDN.out] at HDO HEQ
            have HZE := Lib.hid HZ.out.1
            have hle2 : ¬ W0 < y := by omega
            clear hp hpe hle HZ
            cases dn with
            | true =>
              obtain ⟨hy, hl0⟩ := HEQ.out rfl
              have hb1 : (y != W0) = false := by rw [hy]; simp
              have hb2 : (L0 != 0) = false := by rw [hl0]; simp
              clear hy hl0
              go_wp2_with fail
              refine HSE.out.mono ?_
              rintro e w' ⟨rfl, rfl⟩
              go_wp2_with fail
              refine HDO.out.mono ?_
              rintro e w' ⟨rfl, rfl⟩
              go_wp2_with fail
              refine HSE.out.mono ?_
              rintro e w' ⟨rfl, rfl⟩
              go_wp2
              go_roundw
              case rel => first | exact ⟨j + 1, HJ.out.1, HJ.out.2, by go_num, _, HZE⟩ | ((repeat apply Exists.intro); exact ⟨⟨j + 1, HJ.out.1, HJ.out.2, by go_num, _, HZE⟩, rfl⟩)
              case measure => have := HJ.out; simp [intOf]; omega
            | false =>
              go_wp2_with fail
              refine HSE.out.mono ?_
              rintro e w' ⟨rfl, rfl⟩
              go_wp2_with fail
              refine HDO.out.mono ?_
              rintro e w' ⟨rfl, rfl⟩
              go_wp2
              go_roundw
              case rel => first | exact ⟨j + 1, HJ.out.1, HJ.out.2, by go_num, _, HZE⟩ | ((repeat apply Exists.intro); exact ⟨⟨j + 1, HJ.out.1, HJ.out.2, by go_num, _, HZE⟩, rfl⟩)
              case measure => have := HJ.out; simp [intOf]; omega
    · have hb : ¬ (j : Int) < sl ∨ ((j : Int) < sl ∧ ¬ (j : Int) < 100) := by omega
      have HEND := Lib.hid HT.out.2.2.2
      clear hlt HT
      rcases hb with hb | ⟨hb1, hb2⟩
      all_goals
        go_wp2
        go_ret
        exact ⟨rfl, HEND.out⟩

end Go.Proofs.Ytemlccciffljjaa
