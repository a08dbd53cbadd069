/-
  The walk of TopRow: what is taken and given in an order that all nodes have, node by node, leaves the same count at each, and the same who wait.
  Conditions: the steps are read as lists of integers.
-/
import Derived.Test.YthieompmmpbioaaSkL
namespace Go.Proofs.Ythieompmmpbioaa
open Go Go.RowKit

/-- What stands below B, or has come since, is not the net's or the count's own. -/
theorem QIn.widen {S : Nat → Prop} {w w1 : World} {t : Nat} {s : Qm} (h : QIn S w t s) (hc : Chg NoF w w1) : QIn (fun b => S b ∨ (w.heap.size ≤ b ∧ b < w1.heap.size)) w1 t s := by
  obtain ⟨V, tag, h⟩ := h
  have h1 := Mem.more h hc
  exact ⟨V, fun b => if b < w.heap.size then tag b else none, {
    hS := fun b hb => by
      rcases hb with hb | ⟨h2, h3⟩
      · have := h.hS b hb
        exact ⟨by rw [if_pos this.2]; exact this.1, (h1.hS b hb).2⟩
      · exact ⟨if_neg (by omega), h3⟩
    ht := by rw [if_pos h.blk.lt]; exact h.ht
    blk := h1.blk
    row := h1.row
    tg := fun i b hb => by
      have hlt : b < w.heap.size := Mem.lt h (i := i) hb
      rw [if_pos hlt]; exact h.tg i b hb }⟩

/-- What was counted so far: p1 counts, all C; p2 lists of who waits, all W. -/
structure Acc (B : Nat) (w : World) (p1 p2 : Nat) (cv wv : Value) (C : Int) (W : List Int) (us : List Value) : Prop where
  own1 : w.ownsRow 0 3 1 cv p1 ((List.replicate p1 C).map (.int .i64))
  own2 : w.ownsRow 0 30 1 wv p2 us
  b1 : ∀ b, cv.ownBlock = some b → B ≤ b
  b2 : ∀ b, wv.ownBlock = some b → B ≤ b
  ne : ∀ b, cv.ownBlock = some b → ¬ wv.ownBlock = some b
  us : ∀ u ∈ us, Rd (fun b => b < w.heap.size ∧ ¬ cv.ownBlock = some b ∧ ¬ wv.ownBlock = some b) w u W

theorem Acc.nil (B : Nat) (w : World) (C : Int) (W : List Int) : Acc B w 0 0 (.slice none 0 0) (.slice none 0 0) C W [] where
  own1 := World.ownsRow_nil _ _ _ _
  own2 := World.ownsRow_nil _ _ _ _
  b1 := fun b hb => by cases hb
  b2 := fun b hb => by cases hb
  ne := fun b hb => by cases hb
  us := fun u hu => by cases hu

section
variable {B p1 p2 : Nat} {w w1 : World} {cv wv : Value} {C : Int} {W : List Int} {us : List Value}

theorem Acc.keep (h : Acc B w p1 p2 cv wv C W us) (hc : Chg NoF w w1) : Acc B w1 p1 p2 cv wv C W us :=
  ⟨hc.row h.own1 (fun _ _ hf => hf), hc.row h.own2 (fun _ _ hf => hf), h.b1, h.b2, h.ne, fun u hu => ((h.us u hu).keep hc (fun _ _ hf => hf)).mono fun b _ hb => ⟨Nat.lt_of_lt_of_le hb.1 hc.size, hb.2⟩⟩

theorem Acc.push1 (h : Acc B w p1 p2 cv wv C W us) (hB : B ≤ w.heap.size) (hc : Chg (fun b => cv.ownBlock = some b) w w1) (v : Value) (ho : w1.ownsRow 0 3 1 v (p1 + 1) ((List.replicate p1 C).map (.int .i64) ++ [.int .i64 C])) (hb : ∀ b, v.ownBlock = some b → cv.ownBlock = some b ∨ w.heap.size ≤ b) :
    Acc B w1 (p1 + 1) p2 v wv C W us where
  own1 := by
    rw [List.replicate_succ', List.map_append]; exact ho
  own2 := hc.row h.own2 (fun b hb hf => h.ne b hf hb)
  b1 := fun b hb' => by
    rcases hb b hb' with h1 | h1
    · exact h.b1 b h1
    · omega
  b2 := h.b2
  ne := fun b hb' => by
    rcases hb b hb' with h1 | h1
    · exact h.ne b h1
    · intro h2
      have := (h.own2.lt b h2).2
      omega
  us := fun u hu => ((h.us u hu).keep hc (fun b hb' hf => hb'.2.1 hf)).mono fun b _ hb' => ⟨Nat.lt_of_lt_of_le hb'.1 hc.size, fun h2 => by
    rcases hb b h2 with h1 | h1
    · exact hb'.2.1 h1
    · omega, hb'.2.2⟩

theorem Acc.push2 (h : Acc B w p1 p2 cv wv C W us) (hB : B ≤ w.heap.size) (hc : Chg (fun b => wv.ownBlock = some b) w w1) (v u : Value) (hu : Rd (fun b => b < w.heap.size ∧ ¬ cv.ownBlock = some b ∧ ¬ wv.ownBlock = some b) w u W) (ho : w1.ownsRow 0 30 1 v (p2 + 1) (us ++ [u])) (hb : ∀ b, v.ownBlock = some b → wv.ownBlock = some b ∨ w.heap.size ≤ b) :
    Acc B w1 p1 (p2 + 1) cv v C W (us ++ [u]) where
  own1 := hc.row h.own1 (fun b hb hf => h.ne b hb hf)
  own2 := ho
  b1 := h.b1
  b2 := fun b hb' => by
    rcases hb b hb' with h1 | h1
    · exact h.b2 b h1
    · omega
  ne := fun b hb' h2 => by
    rcases hb b h2 with h1 | h1
    · exact h.ne b hb' h1
    · have := (h.own1.lt b hb').2
      omega
  us := fun x hx => by
    have hx' : Rd (fun b => b < w.heap.size ∧ ¬ cv.ownBlock = some b ∧ ¬ wv.ownBlock = some b) w x W := by
      rcases List.mem_append.1 hx with h1 | h1
      · exact h.us x h1
      · rw [List.mem_singleton.1 h1]; exact hu
    exact (hx'.keep hc (fun b hb' hf => hb'.2.2 hf)).mono fun b _ hb' => ⟨Nat.lt_of_lt_of_le hb'.1 hc.size, hb'.2.1, fun h2 => by
      rcases hb b h2 with h1 | h1
      · exact hb'.2.2 h1
      · omega⟩

/-- The counts: where they lie. -/
theorem Acc.at1 (h : Acc B w p1 p2 cv wv C W us) (hp : 0 < p1) : ∃ g c, cv = .slice (some ⟨g, 0, none⟩) p1 c ∧ ∀ j, j < p1 → w.cell? ⟨g, j, none⟩ = some (.int .i64 C) := by
  obtain ⟨g, c, rfl, _, _⟩ := h.own1.form hp
  refine ⟨g, c, rfl, fun j hj => ?_⟩
  rw [h.own1.cellAt j (by omega)]
  simp [hj]

theorem Acc.at2 (h : Acc B w p1 p2 cv wv C W us) (hp : 0 < p2) : ∃ g c, wv = .slice (some ⟨g, 0, none⟩) p2 c ∧ ∀ j (hj : j < p2), ∃ a cc, w.cell? ⟨g, j, none⟩ = some (.slice a W.length cc) ∧ Rd (fun _ => True) w (.slice a W.length cc) W := by
  obtain ⟨g, c, rfl, _, _⟩ := h.own2.form hp
  have hl : us.length = p2 := by simpa using h.own2.1
  refine ⟨g, c, rfl, fun j hj => ?_⟩
  have hu := h.us us[j] (List.getElem_mem (by omega))
  obtain ⟨a, cc, e⟩ := hu.val
  refine ⟨a, cc, ?_, by rw [← e]; exact hu.mono fun _ _ _ => trivial⟩
  rw [h.own2.cellAt j (by omega), ← e]
  exact List.getElem?_eq_getElem (by omega)
end

theorem fold_ok (l : List Int) : ∀ (s : Qm) (k : Nat), s.ok k → (l.foldl Qm.act s).ok (k + l.length) := by
  induction l with
  | nil => intro s k h; exact h
  | cons x l ih =>
    intro s k h
    have := ih (s.act x) (k + 1) (h.act x)
    rw [List.foldl_cons, List.length_cons]
    rw [show k + (l.length + 1) = k + 1 + l.length by omega]; exact this
theorem fold_step (l : List Int) {d : Nat} (h : d < l.length) (s : Qm) : (l.take (d + 1)).foldl Qm.act s = ((l.take d).foldl Qm.act s).act (l.getD d 0) := by
  rw [List.take_add_one, List.foldl_append, List.getElem?_eq_getElem h, List.getD_eq_getElem?_getD, List.getElem?_eq_getElem h]; rfl

set_option maxHeartbeats 16000000 in
set_option maxRecDepth 100000 in
theorem row_walk (n : Int) (v : Value) (ll : List (List Int)) (cn : Int) (w : World) (hr : Rd2 (fun k => k < w.heap.size) w v ll) (hlb : ll.length ≤ 9223372036854775807) :
    Calls Try.prog 5 #[.int .i64 n, v, .int .i64 cn] w fun e w' => e = .returned (.bool true) ∧ Chg (NewB w) w w' := by
  have HR := Lib.hid hr
  clear hr
  go_enter Try.func5, Try.ntmps5
  go_wp2_with fail
  refine (new_any n w).mono ?_
  rintro e w2 ⟨hc2, hnew⟩
  have HC2 := Lib.hid hc2
  clear hc2
  rcases hnew with ⟨hbad, rfl⟩ | ⟨k, rfl, hk1, hk4, t, g, rfl, hin⟩
  · have hb : decide (n < 1) = true ∨ (decide (n < 1) = false ∧ decide (4 < n) = true) := by
      rcases Bool.and_eq_false_iff.1 hbad with h | h
      · left; rw [decide_eq_true_eq]; have := of_decide_eq_false h; omega
      · by_cases h1 : n < 1
        · left; rw [decide_eq_true_eq]; exact h1
        · right; rw [decide_eq_true_eq, decide_eq_false_iff_not]; have := of_decide_eq_false h; omega
    rw [show errV 1 = .iface 57 (.int .i64 1) from rfl]
    clear hbad
    rcases hb with hb | ⟨hb1, hb2⟩
    · go_wp2
      go_ret
      exact ⟨rfl, HC2.out.ofNo⟩
    · go_wp2
      go_ret
      exact ⟨rfl, HC2.out.ofNo⟩
  have HREL0 : Hid (SRel w w2 t g k (SNet.init k)) := Lib.hid (SRel.start hk1 hk4 (Chg.refl _ w) HC2.out hin)
  clear hin
  obtain ⟨pv, cv, rfl⟩ := HR.out.val
  obtain ⟨sl, hSL⟩ : ∃ sl, Hid (ll.length = sl) := ⟨_, Lib.hid rfl⟩
  rw [hSL.out] at hlb HR ⊢
  go_wp2_with fail
  refine (semNew_any 1 _ (by decide)).mono ?_
  rintro e w3 ⟨t1, rfl, hq, hc⟩
  have HREL : Hid (SRel w w3 t g k (SNet.init k)) := Lib.hid (HREL0.out.keep hc)
  have HQ0 := Lib.hid hq
  clear hq hc HREL0
  go_wp2_with fail
  refine (semCount_any _ _ _ _ HQ0.out).mono ?_
  rintro e w' ⟨rfl, rfl⟩
  go_wp2_with fail
  refine (topIn_any _ _ _ _).mono ?_
  rintro e w' ⟨rfl, rfl⟩
  clear HQ0
  cases hcn : inB cn 0 5 with
  | false =>
    have HEND := Lib.hid HREL.out.2.2.2
    go_wp2
    go_ret
    exact ⟨rfl, HEND.out⟩
  | true =>
  have HCN : Hid (inB cn 0 1000 = true ∧ 0 ≤ cn ∧ cn ≤ 1000) := Lib.hid (by
    have h : 0 ≤ cn ∧ cn ≤ 5 := by simpa [inB] using hcn
    exact ⟨by simp [inB]; omega, by omega, by omega⟩)
  clear hcn
  go_wp2_with fail
  go_loopw [11] (fun i wr => ∃ j : Nat, j ≤ sl ∧ j ≤ 100 ∧ i = .int .i64 j ∧ ∃ s, Hid (SRel w wr t g k s)) (fun i _ => 100 - (intOf i).toNat)
  case atStart => exact ⟨0, Nat.zero_le _, Nat.zero_le _, rfl, _, HREL⟩
  case round =>
    clear HREL
    obtain ⟨j, hjsl, hj150, rfl, s, HT⟩ := hrel
    by_cases hlt : j < sl ∧ j < 100
    · obtain ⟨hlt1, hlt2⟩ := hlt
      obtain ⟨b, off, c, u, e1, hcell, hrow, hrl⟩ := HR.out.at HT.out.2.2.2 (fun b hb hn => hn hb) (j := j) (by rw [hSL.out]; exact hlt1)
      simp only [Value.slice.injEq] at e1
      obtain ⟨rfl, -, rfl⟩ := e1
      have hj1 : (j : Int) < sl := by omega
      have hj2 : (j : Int) < 100 := by omega
      have HJ : Hid (j + 1 ≤ sl ∧ j + 1 ≤ 100) := Lib.hid ⟨hlt1, hlt2⟩
      obtain ⟨l, HL⟩ : ∃ l, Hid (ll.getD j [] = l) := ⟨_, Lib.hid rfl⟩
      rw [HL.out] at hrow
      obtain ⟨ln, hLN⟩ : ∃ x, Hid (l.length = x) := ⟨_, Lib.hid rfl⟩
      clear hrl hlt1 hlt2 hjsl hj150
      by_cases h1 : ln = 1
      · subst h1
        obtain ⟨a3, c3, rfl⟩ := hrow.val
        rw [hLN.out] at hcell
        have HG := Lib.hid (send_any _ _ t g s HT.out.2.2.1 HT.out.1.toSPre)
        clear hrow
        go_wp2_with fail
        refine HG.out.mono ?_
        rintro e w1 ⟨rfl, hin, hcc⟩
        have HT2 : Hid (SRel w w1 t g k s.send) := Lib.hid (HT.out.step HT.out.1.send s.send_n hin hcc)
        clear hin hcc HG hcell
        go_wp2
        go_roundw
        case rel => exact ⟨j + 1, HJ.out.1, HJ.out.2, by go_num, _, HT2⟩
        case measure => have := HJ.out; simp [intOf]; omega
      by_cases h2 : ln = 2
      · subst h2
        obtain ⟨b4, off4, c4, rfl, hbS, hc⟩ := hrow.form (by rw [hLN.out]; omega)
        rw [hLN.out] at hc hcell
        have d0 := hc 0 (by omega)
        have d1 := hc 1 (by omega)
        obtain ⟨x, hX⟩ : ∃ x, Hid (l.getD 0 0 = x) := ⟨_, Lib.hid rfl⟩
        obtain ⟨y, hY⟩ : ∃ y, Hid (l.getD 1 0 = y) := ⟨_, Lib.hid rfl⟩
        rw [hX.out, Nat.add_zero] at d0
        rw [hY.out] at d1
        have HG := Lib.hid (hear_any _ (World.drew _) t g s (HT.out.2.2.1.keep ((Chg.refl NoF _).drew)) HT.out.1.toSPre x y)
        clear hrow hc
        go_wp2_with fail
        refine wp_region_plan (Chg NoF _) 7 [(0,true),(1,true),(2,true),(3,true),(4,true),(5,true),(6,true),(7,false)] mixed (by kernel_rfl) (Chg.refl _ _).drew ?_
        simp only [planOps, List.map_cons, List.map_nil, List.getElem?_cons_zero, List.getElem?_cons_succ, Option.getD_some]
        generalize hops : List.toArray _ = ops
        iterate 7 (refine wpPlan_quiet (v := ?_) rfl (fun _ _ _ h => h) (by intro w1 hS; have s0 := hS.cell_some d0 (fun h => h); have s1 := hS.cell_some d1 (fun h => h); clear hS; go_simp; with_reducible rfl) ?_; (simp only [Act.put, List.setIfInBounds_toArray, List.set_cons_zero, List.set_cons_succ]))
        refine wpPlan_loud rfl (fun K hK => ?_)
        go_simp
        refine HG.out.mono ?_
        rintro e w1 ⟨rfl, hin, hcc⟩
        refine hK _ _ (fun h => absurd rfl h) ?_
        clear hK K
        clear hops
        refine wpPlan_nil ?_
        have HT2 : Hid (SRel w w1 t g k (s.hear x y)) := Lib.hid ((HT.out.keep ((Chg.refl NoF _).drew)).step (HT.out.1.hear x y) (s.hear_n _ _) hin hcc)
        clear hin hcc HG hcell d0 d1
        go_wp2
        go_roundw
        case rel => exact ⟨j + 1, HJ.out.1, HJ.out.2, by go_num, _, HT2⟩
        case measure => have := HJ.out; simp [intOf]; omega
      by_cases h3 : ln = 3
      · subst h3
        obtain ⟨b4, off4, c4, rfl, hbS, hc⟩ := hrow.form (by rw [hLN.out]; omega)
        rw [hLN.out] at hc hcell
        have d0 := hc 0 (by omega)
        have d1 := hc 1 (by omega)
        obtain ⟨x, hX⟩ : ∃ x, Hid (l.getD 0 0 = x) := ⟨_, Lib.hid rfl⟩
        obtain ⟨y, hY⟩ : ∃ y, Hid (l.getD 1 0 = y) := ⟨_, Lib.hid rfl⟩
        rw [hX.out, Nat.add_zero] at d0
        rw [hY.out] at d1
        have HG := Lib.hid (fix_any _ (World.drew _) t g s (HT.out.2.2.1.keep ((Chg.refl NoF _).drew)) HT.out.1 x y)
        clear hrow hc
        go_wp2_with fail
        refine wp_region_plan (Chg NoF _) 7 [(0,true),(1,true),(2,true),(3,true),(4,true),(5,true),(6,true),(7,false)] mixed (by kernel_rfl) (Chg.refl _ _).drew ?_
        simp only [planOps, List.map_cons, List.map_nil, List.getElem?_cons_zero, List.getElem?_cons_succ, Option.getD_some]
        generalize hops : List.toArray _ = ops
        iterate 7 (refine wpPlan_quiet (v := ?_) rfl (fun _ _ _ h => h) (by intro w1 hS; have s0 := hS.cell_some d0 (fun h => h); have s1 := hS.cell_some d1 (fun h => h); clear hS; go_simp; with_reducible rfl) ?_; (simp only [Act.put, List.setIfInBounds_toArray, List.set_cons_zero, List.set_cons_succ]))
        refine wpPlan_loud rfl (fun K hK => ?_)
        go_simp
        refine HG.out.mono ?_
        rintro e w1 ⟨rfl, hin, hcc⟩
        refine hK _ _ (fun h => absurd rfl h) ?_
        clear hK K
        clear hops
        refine wpPlan_nil ?_
        have HT2 : Hid (SRel w w1 t g k (s.fixIt x y)) := Lib.hid ((HT.out.keep ((Chg.refl NoF _).drew)).step (HT.out.1.fixIt x y) (s.fixIt_n _ _) hin hcc)
        clear hin hcc HG hcell d0 d1
        go_wp2
        go_roundw
        case rel => exact ⟨j + 1, HJ.out.1, HJ.out.2, by go_num, _, HT2⟩
        case measure => have := HJ.out; simp [intOf]; omega
      obtain ⟨a3, c3, rfl⟩ := hrow.val
      rw [hLN.out] at hcell
      have b1 : ((ln : Int) == 1) = false := by rw [beq_eq_false_iff_ne]; omega
      have b2 : ((ln : Int) == 2) = false := by rw [beq_eq_false_iff_ne]; omega
      have b3 : ((ln : Int) == 3) = false := by rw [beq_eq_false_iff_ne]; omega
      clear hrow h1 h2 h3
      go_wp2
      go_roundw
      case rel => exact ⟨j + 1, HJ.out.1, HJ.out.2, by go_num, _, HT⟩
      case measure => have := HJ.out; simp [intOf]; omega
    · have HREL2 : Hid (SRel w _ t g k s ∧ HeardTo 0 0 s) := Lib.hid ⟨HT.out, heard_start s⟩
      have hb : ¬ (j : Int) < sl ∨ ((j : Int) < sl ∧ ¬ (j : Int) < 100) := by omega
      clear hlt HT
      rcases hb with hb | ⟨hb1, hb2⟩
      all_goals
        go_wp2_with fail
        go_loopw [13] (fun i wr => ∃ a : Nat, a ≤ 20 ∧ i = .int .i64 a ∧ ∃ s, Hid (SRel w wr t g k s ∧ HeardTo a 0 s)) (fun i _ => 20 - (intOf i).toNat)
        case atStart => exact ⟨0, Nat.zero_le _, rfl, s, HREL2⟩
        case round =>
          clear HREL2
          obtain ⟨a, ha20, rfl, sa, HG⟩ := hrel
          by_cases ha : a < 20
          · have ha1 : (a : Int) < 20 := by omega
            go_wp2_with fail
            go_loopw [14] (fun i wr => ∃ p : Nat, p ≤ k ∧ i = .int .i64 p ∧ ∃ s, Hid (SRel w wr t g k s ∧ HeardTo a p s)) (fun i _ => k - (intOf i).toNat)
            case atStart => exact ⟨0, Nat.zero_le _, rfl, _, HG⟩
            case round =>
              clear HG
              obtain ⟨p, hpk, rfl, sp, HI⟩ := hrel
              by_cases hp : p < k
              · have hp1 : (p : Int) < k := by omega
                have HST := Lib.hid (hear_any _ _ t g sp HI.out.1.2.2.1 HI.out.1.1.toSPre p a)
                go_wp2_with fail
                refine HST.out.mono ?_
                rintro e wc ⟨rfl, hin, hc⟩
                have HI2 : Hid (SRel w wc t g k (sp.hear p a) ∧ HeardTo a (p + 1) (sp.hear p a)) := Lib.hid ⟨HI.out.1.step (HI.out.1.1.hear p a) (sp.hear_n _ _) hin hc, heard_next HI.out.2⟩
                clear hin hc HST
                go_wp2
                go_roundw
                case rel => exact ⟨p + 1, by omega, by go_num, _, HI2⟩
                case measure => simp [intOf]; omega
              · have hp1 : ¬ (p : Int) < k := by omega
                have HG2 : Hid (SRel w _ t g k sp ∧ HeardTo (a + 1) 0 sp) := Lib.hid ⟨HI.out.1, heard_row HI.out.2 (by rw [HI.out.1.2.1]; omega)⟩
                go_wp2
                go_roundw
                case rel => exact ⟨a + 1, by omega, by go_num, _, HG2⟩
                case measure => simp [intOf]; omega
          · have ha1 : ¬ (a : Int) < 20 := by omega
            have HREL3 : Hid (SRel w _ t g k sa ∧ FixedTo 0 0 sa) := Lib.hid ⟨HG.out.1, fixed_start (heard_all HG.out.2 (by have := HG.out.1.1.m20; omega))⟩
            clear HG
            go_wp2_with fail
            go_loopw [15] (fun i wr => ∃ a : Nat, a ≤ 20 ∧ i = .int .i64 a ∧ ∃ s, Hid (SRel w wr t g k s ∧ FixedTo a 0 s)) (fun i _ => 20 - (intOf i).toNat)
            case atStart => exact ⟨0, Nat.zero_le _, rfl, _, HREL3⟩
            case round =>
              clear HREL3
              obtain ⟨d, hd20, rfl, sd, HG⟩ := hrel
              by_cases hd : d < 20
              · have hd1 : (d : Int) < 20 := by omega
                go_wp2_with fail
                go_loopw [16] (fun i wr => ∃ p : Nat, p ≤ k ∧ i = .int .i64 p ∧ ∃ s, Hid (SRel w wr t g k s ∧ FixedTo d p s)) (fun i _ => k - (intOf i).toNat)
                case atStart => exact ⟨0, Nat.zero_le _, rfl, _, HG⟩
                case round =>
                  clear HG
                  obtain ⟨p, hpk, rfl, sp, HI⟩ := hrel
                  by_cases hp : p < k
                  · have hp1 : (p : Int) < k := by omega
                    have HST := Lib.hid (fix_any _ _ t g sp HI.out.1.2.2.1 HI.out.1.1 p d)
                    go_wp2_with fail
                    refine HST.out.mono ?_
                    rintro e wc ⟨rfl, hin, hc⟩
                    have HI2 : Hid (SRel w wc t g k (sp.fixIt p d) ∧ FixedTo d (p + 1) (sp.fixIt p d)) := Lib.hid ⟨HI.out.1.step (HI.out.1.1.fixIt p d) (sp.fixIt_n _ _) hin hc, fixed_next HI.out.2⟩
                    clear hin hc HST
                    go_wp2
                    go_roundw
                    case rel => exact ⟨p + 1, by omega, by go_num, _, HI2⟩
                    case measure => simp [intOf]; omega
                  · have hp1 : ¬ (p : Int) < k := by omega
                    have HG2 : Hid (SRel w _ t g k sp ∧ FixedTo (d + 1) 0 sp) := Lib.hid ⟨HI.out.1, fixed_row HI.out.2 (by rw [HI.out.1.2.1]; omega)⟩
                    go_wp2
                    go_roundw
                    case rel => exact ⟨d + 1, by omega, by go_num, _, HG2⟩
                    case measure => simp [intOf]; omega
              · have hd1 : ¬ (d : Int) < 20 := by omega
                have hsd := HG.out.1.1
                have hdm : sd.m ≤ d := by have := hsd.m20; omega
                have hsn := HG.out.1.2.1
                obtain ⟨G, HGG⟩ : ∃ x, Hid (sd.got 0 = x) := ⟨_, Lib.hid rfl⟩
                have HALL : Hid (∀ p : Nat, p < k → sd.gotOf p = G) := Lib.hid fun p hp => by
                  have hp' : p < sd.n := by rw [hsn]; exact hp
                  rw [sd.gotOf_at hp', hsd.gotEq HG.out.2 hdm hp', HGG.out]
                have h0n : 0 < sd.n := hsd.n1
                have HNAT : Hid (∀ x ∈ G, ∃ c : Nat, x = c) := Lib.hid fun x hx => by
                  rw [← HGG.out] at hx
                  obtain ⟨c, e, _⟩ := hsd.gotF 0 h0n x hx
                  exact ⟨c, e⟩
                have hGl : G.length ≤ 20 := by rw [← HGG.out]; have := hsd.toSPre.got_le h0n; have := hsd.m20; omega
                have HOK : Hid (∀ i, ((G.take i).foldl Qm.act ⟨cn, []⟩).ok 20) := Lib.hid fun i => by
                  have h := fold_ok (G.take i) ⟨cn, []⟩ 0 ⟨HCN.out.2.1, HCN.out.2.2, Nat.le_refl _⟩
                  have h2 : (G.take i).length ≤ G.length := by rw [List.length_take]; omega
                  unfold Qm.ok at h ⊢; omega
                obtain ⟨qe, HQE⟩ : ∃ x, Hid (G.foldl Qm.act ⟨cn, []⟩ = x) := ⟨_, Lib.hid rfl⟩
                obtain ⟨C, HC⟩ : ∃ x, Hid (qe.count = x) := ⟨_, Lib.hid rfl⟩
                obtain ⟨W, HW⟩ : ∃ x, Hid (qe.waits = x) := ⟨_, Lib.hid rfl⟩
                have HWL : Hid (W.length ≤ 20) := Lib.hid (by
                  have := HOK.out G.length
                  rw [List.take_length, HQE.out] at this
                  rw [← HW.out]; exact this.2.2)
                obtain ⟨mm, HMM⟩ : ∃ x, Hid (G.length = x) := ⟨_, Lib.hid rfl⟩
                rw [HMM.out] at hGl
                obtain ⟨wf, rfl⟩ : ∃ x, x = wr := ⟨_, rfl⟩
                have HNET := Lib.hid HG.out.1
                have HA0 : Hid (Acc wf.heap.size wf 0 0 (.slice none 0 0) (.slice none 0 0) C W [] ∧ Chg NoF wf wf) := Lib.hid ⟨Acc.nil _ _ _ _, Chg.refl _ _⟩
                clear hsd hdm hsn h0n HG
                go_wp2_with fail
                go_loopw [19, 17, 18] (fun i cv wv wr => ∃ p : Nat, p ≤ k ∧ i = .int .i64 p ∧ ∃ us, Hid (Acc wf.heap.size wr p p cv wv C W us ∧ Chg NoF wf wr)) (fun i _ _ _ => k - (intOf i).toNat)
                case atStart => exact ⟨0, Nat.zero_le _, rfl, [], HA0⟩
                case round =>
                  clear HA0
                  obtain ⟨p, hpk, rfl, us, HA⟩ := hrel
                  by_cases hp : p < k
                  · have hp1 : (p : Int) < k := by omega
                    have HPK : Hid (p + 1 ≤ k) := Lib.hid hp
                    obtain ⟨wo, rfl⟩ : ∃ x, x = wr := ⟨_, rfl⟩
                    obtain ⟨ca, cc, rfl⟩ := owns_val HA.out.1.own1
                    obtain ⟨wa, wc, rfl⟩ := owns_val HA.out.1.own2
                    have HSN := Lib.hid (semNew_any cn wo HCN.out.1)
                    go_wp2_with fail
                    refine HSN.out.mono ?_
                    rintro e w1 ⟨t2, rfl, hq, hc1⟩
                    have HQ1 := Lib.hid hq
                    have HC1 := Lib.hid hc1
                    have HGT := Lib.hid (got_any _ w1 t g sd (HNET.out.2.2.1.keep (HA.out.2.trans hc1)) HNET.out.1.toSPre p)
                    rw [HALL.out p hp] at HGT
                    clear hq hc1 HSN
                    go_wp2_with fail
                    refine HGT.out.mono ?_
                    rintro e w2 ⟨v', rfl, hown, hc2⟩
                    obtain ⟨S1, HS1⟩ : ∃ S1 : Nat → Prop, Hid ((∀ b, b < wo.heap.size → S1 b) ∧ QIn S1 w2 t2 ⟨cn, []⟩ ∧ Rd S1 w2 v' G ∧ Chg NoF wo w2) := ⟨_, Lib.hid ⟨fun b hb => .inl hb, HQ1.out.widen hc2, Rd.ofOwns hown (fun b hb => .inr ⟨(hown.lt b hb).1, (hown.lt b hb).2⟩), HC1.out.trans hc2⟩⟩
                    obtain ⟨va, vc, rfl⟩ := HS1.out.2.2.1.val
                    rw [HMM.out] at HS1 ⊢
                    have HZ0 : Hid (QIn S1 w2 t2 ((G.take 0).foldl Qm.act ⟨cn, []⟩) ∧ Rd S1 w2 (.slice va mm vc) G ∧ Chg NoF wo w2) := Lib.hid HS1.out.2
                    have HS1A := Lib.hid HS1.out.1
                    clear hown hc2 HGT HQ1 HC1 HS1
                    go_wp2_with fail
                    go_loopw [23] (fun i wr => ∃ d : Nat, d ≤ mm ∧ i = .int .i64 d ∧ Hid (QIn S1 wr t2 ((G.take d).foldl Qm.act ⟨cn, []⟩) ∧ Rd S1 wr (.slice va mm vc) G ∧ Chg NoF wo wr)) (fun i _ => mm - (intOf i).toNat)
                    case atStart => exact ⟨0, Nat.zero_le _, rfl, HZ0⟩
                    case round =>
                      clear HZ0
                      obtain ⟨d, hdm, rfl, HZ⟩ := hrel
                      by_cases hd : d < mm
                      · have hdi : (d : Int) < mm := by omega
                        have HDM : Hid (d + 1 ≤ mm) := Lib.hid hd
                        obtain ⟨b2, off2, c2, e1, _, hcell⟩ := HZ.out.2.1.form (by rw [HMM.out]; omega)
                        simp only [Value.slice.injEq] at e1
                        obtain ⟨rfl, -, rfl⟩ := e1
                        have d0 := hcell d (by rw [HMM.out]; exact hd)
                        obtain ⟨x, HX⟩ : ∃ x : Nat, Hid (G.getD d 0 = x) := by
                          obtain ⟨c, e⟩ := HNAT.out (G.getD d 0) (by rw [List.getD_eq_getElem?_getD, List.getElem?_eq_getElem (by rw [HMM.out]; exact hd), Option.getD_some]; exact List.getElem_mem _)
                          exact ⟨c, Lib.hid e⟩
                        obtain ⟨q, HQ⟩ : ∃ x, Hid ((G.take d).foldl Qm.act ⟨cn, []⟩ = x) := ⟨_, Lib.hid rfl⟩
                        have HST : Hid ((G.take (d + 1)).foldl Qm.act ⟨cn, []⟩ = q.act x) := Lib.hid (by rw [fold_step G (by rw [HMM.out]; exact hd), HX.out, HQ.out])
                        have HQK : Hid (q.ok 1000) := Lib.hid (by have := HOK.out d; rw [HQ.out] at this; unfold Qm.ok at *; omega)
                        rw [HQ.out] at HZ
                        rw [HX.out] at d0
                        clear hcell hd
                        by_cases h3 : (x : Int) % 3 = 0
                        · have HAC : Hid (q.act x = q.give) := Lib.hid (by unfold Qm.act; rw [if_pos h3])
                          have HGV := Lib.hid (semGive_any S1 _ t2 q HZ.out.1 HQK.out)
                          go_wp2_with fail
                          refine HGV.out.mono ?_
                          rintro e w6 ⟨⟨ra, rb, rfl⟩, hq6, hc6⟩
                          have HZ2 : Hid (QIn S1 w6 t2 ((G.take (d + 1)).foldl Qm.act ⟨cn, []⟩) ∧ Rd S1 w6 (.slice (some ⟨b2, off2, none⟩) mm vc) G ∧ Chg NoF wo w6) := Lib.hid ⟨by rw [HST.out, HAC.out]; exact hq6, HZ.out.2.1.keep hc6 (fun b hb hn => hn hb), (HZ.out.2.2.ofNo.trans hc6).mono fun b hb hf => hf (HS1A.out b hb)⟩
                          clear hq6 hc6 HGV d0 HZ h3
                          go_wp2
                          go_roundw
                          case rel => exact ⟨d + 1, HDM.out, by go_num, HZ2⟩
                          case measure => have := HDM.out; simp [intOf]; omega
                        · have HAC : Hid (q.act x = q.take ((x : Int) % 8)) := Lib.hid (by unfold Qm.act; rw [if_neg h3])
                          have HGV := Lib.hid (semTake_any S1 _ t2 q HZ.out.1 HQK.out ((x : Int) % 8))
                          have h3b : ((x : Int) % 3 == 0) = false := by rw [beq_eq_false_iff_ne]; exact h3
                          go_wp2_with fail
                          refine HGV.out.mono ?_
                          rintro e w6 ⟨⟨ra, rb, rfl⟩, hq6, hc6⟩
                          have HZ2 : Hid (QIn S1 w6 t2 ((G.take (d + 1)).foldl Qm.act ⟨cn, []⟩) ∧ Rd S1 w6 (.slice (some ⟨b2, off2, none⟩) mm vc) G ∧ Chg NoF wo w6) := Lib.hid ⟨by rw [HST.out, HAC.out]; exact hq6, HZ.out.2.1.keep hc6 (fun b hb hn => hn hb), (HZ.out.2.2.ofNo.trans hc6).mono fun b hb hf => hf (HS1A.out b hb)⟩
                          clear hq6 hc6 HGV d0 HZ h3 h3b
                          go_wp2
                          go_roundw
                          case rel => exact ⟨d + 1, HDM.out, by go_num, HZ2⟩
                          case measure => have := HDM.out; simp [intOf]; omega
                      · have hdi : ¬ (d : Int) < mm := by omega
                        obtain rfl : d = mm := by omega
                        have HQD : Hid (QIn S1 _ t2 qe) := Lib.hid (by
                          have h1 := HZ.out.1
                          rw [← HMM.out, List.take_length, HQE.out] at h1; exact h1)
                        have HAC : Hid (Acc wf.heap.size _ p p (.slice ca p cc) (.slice wa p wc) C W us ∧ Chg NoF wf _) := Lib.hid ⟨HA.out.1.keep HZ.out.2.2, HA.out.2.trans HZ.out.2.2⟩
                        clear hd hdm HZ
                        go_wp2_with fail
                        refine (semCount_any _ _ _ _ HQD.out).mono ?_
                        rintro e w' ⟨rfl, rfl⟩
                        rw [HC.out]
                        obtain ⟨wq, rfl⟩ : ∃ x, x = wr := ⟨_, rfl⟩
                        have hown1 := HAC.out.1.own1
                        obtain ⟨i0, hi, hz0, hz1, hz2⟩ := info_parts infoInt
                        go_wp2_with (at_builtin; refine wpList_append_lies _ rfl _ _ 30 rfl 0 3 i0 (.int .i64 0) 1 8 Try.underlying30 hi hz0 hz1 hz2 rfl (by decide) (.slice ca p cc) p _ rfl (hown1.alloc _) ⟨wq.heap.size, 0, none⟩ 1 1 [.int .i64 C] rfl rfl (World.news_of_block (cs := #[.int .i64 C]) (t := 3) (fr := (0, 0)) (heap_alloc_new wq _)) (by simp [Value.oneCell']) (by omega) (by unfold maxLen; omega) (by omega) (by simp) _ rfl ?_; intro g4 cap4 w6 hown4 hgrow4 hat4 hlt4)
                        have hc6 : Chg (fun b => (Value.slice ca p cc).ownBlock = some b) wq w6 := ((Chg.refl _ wq).alloc _).grown hgrow4 (fun k hk => .inl hk)
                        have HAC6 : Hid (Acc wf.heap.size w6 (p + 1) p (.slice (some ⟨g4, 0, none⟩) (p + 1) cap4) (.slice wa p wc) C W us) := Lib.hid (HAC.out.1.push1 HAC.out.2.size hc6 _ hown4 (fun b hb => by
                          obtain rfl : g4 = b := by simpa [Value.ownBlock] using hb
                          rcases hat4 with h1 | h1
                          · exact .inl h1
                          · right; rw [h1]; simp))
                        have HWF6 : Hid (Chg NoF wf w6) := Lib.hid ((HAC.out.2.ofNo.trans hc6).mono fun b hb hf => by have := HAC.out.1.b1 b hf; omega)
                        have HQ6 : Hid (QIn S1 w6 t2 qe) := Lib.hid (HQD.out.keep hc6 (fun b hb => HS1A.out b (HA.out.1.own1.lt b hb).2))
                        have HWT := Lib.hid (semWaits_any S1 w6 t2 qe HQ6.out (by rw [HW.out]; have := HWL.out; omega))
                        rw [HW.out] at HWT
                        obtain ⟨wl, HWN⟩ : ∃ x, Hid (W.length = x) := ⟨_, Lib.hid rfl⟩
                        clear hown4 hgrow4 hat4 hlt4 hc6 hown1 HAC HQD HA
                        refine HWT.out.mono ?_
                        rintro e w7 ⟨v2, rfl, hown7, hc7⟩
                        obtain ⟨va2, vc2, rfl⟩ := owns_val hown7
                        have HU : Hid (Rd (fun b => b < w7.heap.size ∧ ¬ (Value.slice (some ⟨g4, 0, none⟩) (p + 1) cap4).ownBlock = some b ∧ ¬ (Value.slice wa p wc).ownBlock = some b) w7 (.slice va2 W.length vc2) W) := Lib.hid (Rd.ofOwns hown7 (fun b hb => ⟨(hown7.lt b hb).2, fun h => by
                          have h1 := (HAC6.out.own1.lt b h).2
                          have h2 := (hown7.lt b hb).1
                          omega, fun h => by
                          have h1 := (HAC6.out.own2.lt b h).2
                          have h2 := (hown7.lt b hb).1
                          omega⟩))
                        have HAC7 := Lib.hid (HAC6.out.keep hc7)
                        have HWF7 := Lib.hid (HWF6.out.trans hc7)
                        have hown2 := HAC7.out.own2
                        rw [HWN.out] at HU ⊢
                        clear hown7 hc7 HWT HAC6 HWF6 HQ6
                        obtain ⟨i1, hi', hz0', hz1', hz2'⟩ := info_parts infoSl
                        go_wp2_with (at_builtin; refine wpList_append_lies _ rfl _ _ 22 rfl 0 30 i1 (.slice none 0 0) 1 24 Try.underlying22 hi' hz0' hz1' hz2' rfl (by decide) (.slice wa p wc) p _ rfl (hown2.alloc _) ⟨w7.heap.size, 0, none⟩ 1 1 [.slice va2 wl vc2] rfl rfl (World.news_of_block (cs := #[.slice va2 wl vc2]) (t := 30) (fr := (0, 0)) (heap_alloc_new w7 _)) (by simp [Value.oneCell']) (by omega) (by unfold maxLen; omega) (by omega) (by simp) _ rfl ?_; intro g5 cap5 w8 hown8 hgrow8 hat8 hlt8)
                        have hc8 : Chg (fun b => (Value.slice wa p wc).ownBlock = some b) w7 w8 := ((Chg.refl _ w7).alloc _).grown hgrow8 (fun k hk => .inl hk)
                        have HAC8 : Hid (Acc wf.heap.size w8 (p + 1) (p + 1) (.slice (some ⟨g4, 0, none⟩) (p + 1) cap4) (.slice (some ⟨g5, 0, none⟩) (p + 1) cap5) C W (us ++ [.slice va2 wl vc2])) := Lib.hid (HAC7.out.push2 HWF7.out.size hc8 _ _ HU.out hown8 (fun b hb => by
                          obtain rfl : g5 = b := by simpa [Value.ownBlock] using hb
                          rcases hat8 with h1 | h1
                          · exact .inl h1
                          · right; rw [h1]; simp))
                        have HWF8 : Hid (Chg NoF wf w8) := Lib.hid ((HWF7.out.ofNo.trans hc8).mono fun b hb hf => by have := HAC7.out.b2 b hf; omega)
                        obtain ⟨g6, c6, e6, hcnt⟩ := HAC8.out.at1 (by omega)
                        simp only [Value.slice.injEq, Option.some.injEq, Addr.mk.injEq, and_true, true_and] at e6
                        obtain ⟨rfl, rfl⟩ := e6
                        obtain ⟨g7, c7, e7, hwts⟩ := HAC8.out.at2 (by omega)
                        simp only [Value.slice.injEq, Option.some.injEq, Addr.mk.injEq, and_true, true_and] at e7
                        obtain ⟨rfl, rfl⟩ := e7
                        have d0 := hcnt 0 (by omega)
                        have dp := hcnt p (by omega)
                        obtain ⟨a0, cc0, w0, r0⟩ := hwts 0 (by omega)
                        obtain ⟨ap, ccp, wp, rp⟩ := hwts p (by omega)
                        rw [HWN.out] at w0 r0 wp rp
                        have HIT := Lib.hid (ints_any (fun _ => True) (.slice ap wl ccp) (.slice a0 wl cc0) W W w8.drew (rp.keep ((Chg.refl NoF w8).drew) (fun _ _ h => h)) (r0.keep ((Chg.refl NoF w8).drew) (fun _ _ h => h)) (by have := HWL.out; omega) (by have := HWL.out; omega))
                        rw [show decide (W = W) = true from decide_eq_true rfl] at HIT
                        have hpp : (p : Int) < (p : Int) + 1 := by omega
                        clear hc8 hown8 hgrow8 hat8 hlt8 hcnt hwts r0 rp hown2 HAC7 HWF7 HU
                        refine wp_region_plan (Chg NoF w8) 19 [(0,true),(1,true),(2,true),(3,true),(4,true),(5,true),(6,true),(7,true),(8,true),(9,true),(10,true),(11,true),(12,true),(13,true),(14,true),(15,true),(16,false),(17,true),(18,true)] mixed (by kernel_rfl) (Chg.refl _ _).drew ?_
                        simp only [planOps, List.map_cons, List.map_nil, List.getElem?_cons_zero, List.getElem?_cons_succ, Option.getD_some]
                        generalize hops : List.toArray _ = ops
                        iterate 9 (refine wpPlan_quiet (v := ?_) rfl (fun _ _ _ h => h) (by intro w1 hS; have s0 := hS.cell_some d0 (fun h => h); have s1 := hS.cell_some dp (fun h => h); clear hS; go_simp; with_reducible rfl) ?_; (simp only [Act.put, List.setIfInBounds_toArray, List.set_cons_zero, List.set_cons_succ]))
                        iterate 7 (refine wpPlan_quietG (v := ?_) (by rw [← hops]; rfl) (fun _ _ _ h => h) (by intro w1 hS; have s0 := hS.cell_some w0 (fun h => h); have s1 := hS.cell_some wp (fun h => h); clear hS; go_simp; with_reducible rfl) ?_; (simp only [Act.put, List.setIfInBounds_toArray, List.set_cons_zero, List.set_cons_succ]))
                        refine wpPlan_loudG (by rw [← hops]; rfl) (fun K hK => ?_)
                        go_simp
                        refine HIT.out.mono ?_
                        rintro e w9 ⟨rfl, jd, rfl⟩
                        refine hK _ _ (fun _ => ((Chg.refl NoF w8).drew).drewN jd) ?_
                        clear hK K
                        (try simp only [Act.put, List.setIfInBounds_toArray, List.set_cons_zero, List.set_cons_succ])
                        (refine wpPlan_quietG (v := ?_) (by rw [← hops]; rfl) (fun _ _ _ h => h) (by intro w1 hS; clear hS; go_simp; with_reducible rfl) ?_; (simp only [Act.put, List.setIfInBounds_toArray, List.set_cons_zero, List.set_cons_succ]))
                        (refine wpPlan_quiet (v := ?_) rfl (fun _ _ _ h => h) (by intro w1 hS; clear hS; go_simp; with_reducible rfl) ?_; (simp only [Act.put, List.setIfInBounds_toArray, List.set_cons_zero, List.set_cons_succ]))
                        clear hops
                        refine wpPlan_nil ?_
                        have HE9 : Hid (Acc wf.heap.size (w8.drew.drewN jd) (p + 1) (p + 1) (.slice (some ⟨g4, 0, none⟩) (p + 1) cap4) (.slice (some ⟨g5, 0, none⟩) (p + 1) cap5) C W (us ++ [.slice va2 wl vc2]) ∧ Chg NoF wf (w8.drew.drewN jd)) := Lib.hid ⟨HAC8.out.keep (((Chg.refl NoF w8).drew).drewN jd), HWF8.out.trans (((Chg.refl NoF w8).drew).drewN jd)⟩
                        clear d0 dp w0 wp HIT hpp
                        generalize World.drewN _ jd = w9 at *
                        go_wp2
                        go_roundw
                        case rel => exact ⟨p + 1, HPK.out, by go_num, _, HE9⟩
                        case measure => have := HPK.out; simp [intOf]; omega
                  · have hp1 : ¬ (p : Int) < k := by omega
                    have HEND := Lib.hid (HNET.out.2.2.2.trans HA.out.2.ofNo)
                    go_wp2
                    go_ret
                    exact ⟨rfl, HEND.out⟩

end Go.Proofs.Ythieompmmpbioaa
