/-
  The lock whose token goes from one to the next: a new one; what is told of it.
  Conditions: none beyond those of each theorem.
-/
import Derived.Test.YthblnljjhbdejaaDoorToF
namespace Go.Proofs.YthblnljjhbdejaaDoor
open Go Go.RowKit

set_option maxHeartbeats 400000 in
theorem hands_any (n : Int) (w : World) :
    Calls Tryd.prog 19 #[.int .i64 n] w fun e w' => e = .returned (errV (if inB n 1 4 = true then 0 else 1)) ∧ w = w' := by
  cases hin : inB n 1 4
  all_goals
    go_enter Tryd.func19, Tryd.ntmps19
    go_wp2_with fail
    refine (within_any _ _ _ _).mono ?_
    rintro e w' ⟨rfl, rfl⟩
    rw [hin]
    go_wp2
    go_ret
    exact ⟨rfl, rfl⟩

def NewPost (w : World) (n : Int) (e : Ending) (w' : World) : Prop :=
  Chg NoF w w' ∧ ((inB n 1 4 = false ∧ e = .returned (.tuple #[.pointer none, errV 1])) ∨ (∃ k : Nat, n = k ∧ 1 ≤ k ∧ k ≤ 4 ∧ ∃ t g, e = .returned (.tuple #[.pointer (some ⟨t, 0, none⟩), .nilIface]) ∧ TIn (fun b => b < w.heap.size) w' t g (TNet.init k)))

theorem infoNode : (Tryd.prog.info? 51).map (fun i => (i.zero, i.size, i.bytes)) = some (some (.agg #[.bool false, .bool false, .slice none 0 0]), 3, 32) := by kernel_rfl
theorem infoSl : (Tryd.prog.info? 29).map (fun i => (i.zero, i.size, i.bytes)) = some (some (.slice none 0 0), 1, 24) := by kernel_rfl
theorem infoSl2 : (Tryd.prog.info? 22).map (fun i => (i.zero, i.size, i.bytes)) = some (some (.slice none 0 0), 1, 24) := by kernel_rfl

theorem zeros_ints (n : Nat) : (madeCells (Value.int .i64 0).cells (n * 1)).toList = (List.range n).map fun _ => Value.int .i64 0 := by
  rw [Nat.mul_one, List.map_const', List.length_range]; exact toList_madeCells_one _ _

set_option maxHeartbeats 8000000 in
set_option maxRecDepth 100000 in
theorem new_any (n : Int) (w : World) : Calls Tryd.prog 4 #[.int .i64 n] w (NewPost w n) := by
  cases hin : inB n 1 4 with
  | false =>
    go_enter Tryd.func4, Tryd.ntmps4
    go_wp2_with fail
    refine (hands_any n _).mono ?_
    rintro e w' ⟨rfl, rfl⟩
    rw [hin, show errV (if false = true then 0 else 1) = .iface 52 (.int .i64 1) from rfl]
    go_wp2
    go_ret2
    exact ⟨Chg.refl _ _, .inl ⟨hin, rfl⟩⟩
  | true =>
    have hb : 1 ≤ n ∧ n ≤ 4 := by simpa [inB] using hin
    obtain ⟨n, rfl⟩ := Int.eq_ofNat_of_zero_le (show 0 ≤ n by omega)
    have hn1 : 1 ≤ n := by omega
    have hn4 : n ≤ 4 := by omega
    have HIN := Lib.hid hin
    clear hin hb
    go_enter Tryd.func4, Tryd.ntmps4
    go_wp2_with fail
    refine (hands_any n _).mono ?_
    rintro e w' ⟨rfl, rfl⟩
    rw [HIN.out, show errV (if true = true then 0 else 1) = .nilIface from rfl]
    go_wp2_with (at_make; refine wpList_plain rfl (fun K hK => wp_make (P := Tryd.prog) 29 _ _ rfl 3 (.int .i64 0) 1 8 infoInt Tryd.underlying29 .i64 .i64 n (by rfl) (by rfl) (by omega) (by omega) ?_); intro gN w1 hgN own1 hc1 hlt1; have HGN := Lib.hid hgN; clear hgN; refine hK _ _ ?_; clear hK)
    rw [zeros_ints] at own1
    have HA := Lib.hid (TAt.first w w1 n gN 49 (fun b => b < w.heap.size) (fun b hb => by rw [HGN.out]; exact hb) hlt1 own1)
    have HC0 : Hid (Chg NoF w (w1.alloc (.cells #[.slice none 0 0, .int .i64 0, .int .i64 0, .slice (some ⟨gN, 0, none⟩) n n, .slice none 0 0, .slice none 0 0] 49))) := Lib.hid (hc1.alloc _)
    obtain ⟨t, hT⟩ : ∃ t, Hid (w1.heap.size = t) := ⟨_, Lib.hid rfl⟩
    have hnS : Hid (¬ t < w.heap.size) := Lib.hid (by rw [← hT.out]; have := hc1.size; omega)
    rw [hT.out] at HA ⊢
    clear own1 hc1 hlt1
    go_loopw [16] (fun i wr => ∃ k : Nat, k ≤ n ∧ i = .int .i64 k ∧ ∃ V tag, Hid (TAt (fun b => b < w.heap.size) wr t (TNet.init n) k k V tag) ∧ Hid (Chg NoF w wr)) (fun i _ => n - (intOf i).toNat)
    case atStart => exact ⟨0, Nat.zero_le _, rfl, _, _, HA, HC0⟩
    case round =>
      obtain ⟨k, hkn, rfl, V0, tag0, HK0, HCC⟩ := hrel
      by_cases hlt : k < n
      · have hk1 : (k : Int) < n := by omega
        obtain ⟨vn, HVn⟩ : ∃ x, Hid (V0 .nodes = x) := ⟨_, Lib.hid rfl⟩
        have c0 : wr.cell? ⟨t, 0, none⟩ = some (V0 .nodes) := HK0.out.blk.cell 0
        rw [HVn.out] at c0
        have f0 := HK0.out.blk.frozen 0
        have tlt := HK0.out.blk.lt
        have nN : ¬ vn.ownBlock = some t := by
          have := Mem.tne HK0.out (i := .nodes)
          rw [← HVn.out]; exact this
        have ownN : World.ownsRow wr 0 51 3 (V0 .nodes) k (grid k 3 ((TNet.init n).cell V0)) := HK0.out.row .nodes
        rw [HVn.out] at ownN
        go_wp2_with fail
        refine wp_region_plan (Chg (fun b => vn.ownBlock = some b) wr) 12 [(0,true),(1,true),(2,true),(3,true),(4,true),(5,true),(6,false),(7,true),(8,false),(9,false),(10,true),(11,true),(12,false)] mixed (by kernel_rfl) (Chg.refl _ _).drew ?_
        simp only [planOps, List.map_cons, List.map_nil, List.getElem?_cons_zero, List.getElem?_cons_succ, Option.getD_some]
        generalize List.toArray _ = ops
        iterate 6 (refine wpPlan_quiet (v := ?_) rfl (fun _ _ _ h => h) (by intro w1 hS; have s1 := hS.cell_some c0 nN; clear hS; go_simp; with_reducible rfl) ?_; (simp only [Act.put, List.setIfInBounds_toArray, List.set_cons_zero, List.set_cons_succ]))
        refine wpPlan_loud rfl (fun K hK => ?_)
        refine wp_make (P := Tryd.prog) 29 _ _ rfl 3 (.int .i64 0) 1 8 infoInt Tryd.underlying29 .i64 .i64 n (by rfl) (by rfl) (by omega) (by omega) ?_
        intro g3 w3 hg3 own3 hc3 hlt3
        have HG3 := Lib.hid hg3
        clear hg3
        have hc3' : Chg NoF wr w3 := ((Chg.refl NoF wr).drew).trans hc3
        refine hK _ _ (fun _ => hc3'.ofNo) ?_
        clear hK K
        (simp only [Act.put, List.setIfInBounds_toArray, List.set_cons_zero, List.set_cons_succ])
        refine wpPlan_quiet (v := ?_) rfl (fun _ _ _ h => h) (by intro w1 hS; clear hS; go_simp; with_reducible rfl) ?_; (simp only [Act.put, List.setIfInBounds_toArray, List.set_cons_zero, List.set_cons_succ])
        refine wpPlan_loud rfl (fun K hK => ?_)
        go_simp
        refine hK _ _ (fun _ => (hc3'.alloc _).ofNo) ?_
        clear hK K
        refine wpPlan_loud rfl (fun K hK => ?_)
        refine wp_app _ _ 46 rfl 51 (.agg #[.bool false, .bool false, .slice none 0 0]) 3 32 infoNode Tryd.underlying46 rfl (by decide) vn k _ (by rfl) ((hc3'.alloc _).row ownN (fun _ _ hf => hf)) w3.heap.size 1 [.bool false, .bool false, .slice (some ⟨g3, 0, none⟩) n n] (by rfl) ⟨51, (0, 0), heap_alloc_new w3 _⟩ rfl (by simp [Value.oneCell']) (by omega) (by omega) ?_
        intro g4 cap4 w4 hown4 hc4 hat4 hlt4
        have hc5 : Chg (fun b => vn.ownBlock = some b) wr w4 := ((hc3'.alloc _).ofNo).trans hc4
        refine hK _ _ (fun _ => hc5) ?_
        clear hK K
        (simp only [Act.put, List.setIfInBounds_toArray, List.set_cons_zero, List.set_cons_succ])
        iterate 2 (refine wpPlan_quiet (v := ?_) rfl (fun _ _ _ h => h) (by intro w1 hS; have s1 := hS.cell_some c0 nN; clear hS; go_simp; with_reducible rfl) ?_; (simp only [Act.put, List.setIfInBounds_toArray, List.set_cons_zero, List.set_cons_succ]))
        refine wpPlan_loud rfl (fun K hK => ?_)
        have s2 := hc5.cell_some c0 nN
        have f2 : w4.frozen? ⟨t, 0, none⟩ = false := by rw [World.frozen?_of_block (hc5.block t tlt nN)]; exact f0
        go_simp
        refine hK _ _ (fun h => absurd rfl h) ?_
        clear hK K
        refine wpPlan_nil ?_
        rw [zeros_ints] at own3
        have hADDN := HK0.out.addNode (hc3'.alloc _) (.slice (some ⟨g3, 0, none⟩) n n) (((Chg.refl NoF w3).alloc _).row own3 (fun _ _ hf => hf)) (fun b hb => by
          obtain rfl : g3 = b := by simpa [Value.ownBlock] using hb
          rw [HG3.out]; exact Nat.le_refl _) (by rw [HVn.out]; exact hc4) (.slice (some ⟨g4, 0, none⟩) (k + 1) cap4) hown4 (fun b hb => by rw [HVn.out]; exact hat4 b hb)
        obtain ⟨tagN, hADDN⟩ := hADDN
        have HC2 : Hid (Chg NoF w (w4.setCell ⟨t, 0, none⟩ (.slice (some ⟨g4, 0, none⟩) (k + 1) cap4))) := Lib.hid ((HCC.out.ofNo.trans ((HK0.out.chgNew .nodes (by show Chg (fun b => (V0 .nodes).ownBlock = some b) _ w4; rw [HVn.out]; exact hc5)).setCell (.inl hnS.out) _)).mono fun b hb hf => hf hb)
        have HK2 := Lib.hid hADDN
        clear hADDN hc5 hown4 hat4 hlt4 hc4 hc3' hc3 own3 hlt3 c0 f0 tlt nN ownN s2 f2 HVn HK0 HCC
        generalize addN V0 k _ _ = V at *
        generalize w4.setCell ⟨t, 0, none⟩ _ = wz at *
        obtain ⟨vw, HV2⟩ : ∃ x, Hid (V .ways = x) := ⟨_, Lib.hid rfl⟩
        have c1 : wz.cell? ⟨t, 5, none⟩ = some (V .ways) := HK2.out.blk.cell 5
        rw [HV2.out] at c1
        have f1 := HK2.out.blk.frozen 5
        have tlt := HK2.out.blk.lt
        have nW : ¬ vw.ownBlock = some t := by
          have := Mem.tne HK2.out (i := .ways)
          rw [← HV2.out]; exact this
        have ownW : World.ownsRow wz 0 22 1 (V .ways) k ((List.range k).map fun p => V (.row p)) := HK2.out.row .ways
        rw [HV2.out] at ownW
        go_wp2_with fail
        refine wp_region_plan (Chg (fun b => vw.ownBlock = some b) _) 11 [(0,true),(1,true),(2,true),(3,true),(4,true),(5,true),(6,false),(7,false),(8,false),(9,true),(10,true),(11,false)] mixed (by kernel_rfl) (Chg.refl _ _).drew ?_
        simp only [planOps, List.map_cons, List.map_nil, List.getElem?_cons_zero, List.getElem?_cons_succ, Option.getD_some]
        generalize List.toArray _ = ops
        iterate 6 (refine wpPlan_quiet (v := ?_) rfl (fun _ _ _ h => h) (by intro w1 hS; have s1 := hS.cell_some c1 nW; clear hS; go_simp; with_reducible rfl) ?_; (simp only [Act.put, List.setIfInBounds_toArray, List.set_cons_zero, List.set_cons_succ]))
        refine wpPlan_loud rfl (fun K hK => ?_)
        refine wp_make (P := Tryd.prog) 22 _ _ rfl 29 (.slice none 0 0) 1 24 infoSl Tryd.underlying22 .i64 .i64 n (by rfl) (by rfl) (by omega) (by omega) ?_
        intro g3 w3 hg3 own3 hc3 hlt3
        have HG3 := Lib.hid hg3
        clear hg3
        have hc3' : Chg NoF _ w3 := ((Chg.refl NoF _).drew).trans hc3
        refine hK _ _ (fun _ => hc3'.ofNo) ?_
        clear hK K
        (simp only [Act.put, List.setIfInBounds_toArray, List.set_cons_zero, List.set_cons_succ])
        refine wpPlan_loud rfl (fun K hK => ?_)
        go_simp
        refine hK _ _ (fun _ => (hc3'.alloc _).ofNo) ?_
        clear hK K
        refine wpPlan_loud rfl (fun K hK => ?_)
        refine wp_app _ _ 47 rfl 22 (.slice none 0 0) 1 24 infoSl2 Tryd.underlying47 rfl (by decide) vw k _ (by rfl) ((hc3'.alloc _).row ownW (fun _ _ hf => hf)) w3.heap.size 1 [.slice (some ⟨g3, 0, none⟩) n n] (by rfl) ⟨22, (0, 0), heap_alloc_new w3 _⟩ rfl (by simp [Value.oneCell']) (by omega) (by omega) ?_
        intro g4 cap4 w4 hown4 hc4 hat4 hlt4
        have hc5 : Chg (fun b => vw.ownBlock = some b) _ w4 := ((hc3'.alloc _).ofNo).trans hc4
        refine hK _ _ (fun _ => hc5) ?_
        clear hK K
        (simp only [Act.put, List.setIfInBounds_toArray, List.set_cons_zero, List.set_cons_succ])
        iterate 2 (refine wpPlan_quiet (v := ?_) rfl (fun _ _ _ h => h) (by intro w1 hS; have s1 := hS.cell_some c1 nW; clear hS; go_simp; with_reducible rfl) ?_; (simp only [Act.put, List.setIfInBounds_toArray, List.set_cons_zero, List.set_cons_succ]))
        refine wpPlan_loud rfl (fun K hK => ?_)
        have s2 := hc5.cell_some c1 nW
        have f2 : w4.frozen? ⟨t, 5, none⟩ = false := by rw [World.frozen?_of_block (hc5.block t tlt nW)]; exact f1
        go_simp
        refine hK _ _ (fun h => absurd rfl h) ?_
        clear hK K
        refine wpPlan_nil ?_
        have eR : (madeCells (Value.slice none 0 0).cells (n * 1)).toList = List.replicate n (Value.slice none 0 0) := by
          rw [Nat.mul_one]; exact toList_madeCells_one _ _
        rw [eR] at own3
        have hADD := HK2.out.addRow (hc3'.alloc _) (.slice (some ⟨g3, 0, none⟩) n n) (((Chg.refl NoF w3).alloc _).row own3 (fun _ _ hf => hf)) (fun b hb => by
          obtain rfl : g3 = b := by simpa [Value.ownBlock] using hb
          rw [HG3.out]; exact Nat.le_refl _) (by rw [HV2.out]; exact hc4) (.slice (some ⟨g4, 0, none⟩) (k + 1) cap4) hown4 (fun b hb => by rw [HV2.out]; exact hat4 b hb)
        have HC5 : Hid (Chg NoF w (w4.setCell ⟨t, 5, none⟩ (.slice (some ⟨g4, 0, none⟩) (k + 1) cap4))) := Lib.hid ((HC2.out.ofNo.trans ((HK2.out.chgNew .ways (by show Chg (fun b => (V .ways).ownBlock = some b) _ w4; rw [HV2.out]; exact hc5)).setCell (.inl hnS.out) _)).mono fun b hb hf => hf hb)
        have HADD := Lib.hid hADD
        clear hADD hc5 hown4 hat4 hlt4 hc4 hc3' hc3 own3 hlt3 c1 f1 tlt nW ownW s2 f2 HV2 HK2 HC2
        generalize w4.setCell ⟨t, 5, none⟩ _ = w5 at *
        go_wp2
        go_roundw
        case rel =>
          obtain ⟨tag', hA⟩ := HADD.out
          exact ⟨k + 1, by omega, by go_num, _, tag', Lib.hid hA, HC5⟩
        case measure => simp [intOf]; omega
      · obtain rfl : k = n := by omega
        obtain ⟨gg, cc, hvv, _, _, _, _⟩ := Mem.val HK0.out .nodes (by show 0 < k; omega)
        have HVV : Hid (V0 .nodes = .slice (some ⟨gg, 0, none⟩) k cc) := Lib.hid hvv
        clear hvv
        go_wp2
        go_ret2
        exact ⟨HCC.out, .inr ⟨k, rfl, hn1, hn4, t, gg, rfl, V0, tag0, ⟨cc, HVV.out⟩, HK0.out⟩⟩

def TNet.stateOf (s : TNet) (p : Int) : Int := if s.is p = true then (if s.inn p.toNat = true then 2 else if s.asks p.toNat = true then 1 else 0) else -1

set_option maxHeartbeats 1000000 in
theorem state_any (S : Nat → Prop) (w : World) (t g : Nat) (s : TNet) (h : TIn S w t g s) (hs : 0 < s.n) (p : Int) :
    Calls Tryd.prog 17 #[.pointer (some ⟨t, 0, none⟩), .int .i64 p] w fun e w' => e = .returned (.int .i64 (s.stateOf p)) ∧ w = w' := by
  have HP := Lib.hid (is_any S w t g s h hs p)
  cases hip : s.is p with
  | false =>
    have hE : Hid (s.stateOf p = -1) := Lib.hid (by unfold TNet.stateOf; rw [if_neg (by rw [hip]; simp)])
    rw [hE.out]
    rw [hip] at HP
    clear h hs hip
    go_enter Tryd.func17, Tryd.ntmps17
    go_wp2_with fail
    refine HP.out.mono ?_
    rintro e w' ⟨rfl, rfl⟩
    go_wp2
    go_ret
    exact ⟨rfl, rfl⟩
  | true =>
    rw [hip] at HP
    have hE : Hid (s.stateOf p = if s.inn p.toNat = true then 2 else if s.asks p.toNat = true then 1 else 0) := Lib.hid (by unfold TNet.stateOf; rw [if_pos hip])
    rw [hE.out]
    obtain ⟨a, rfl, ha⟩ := (s.is_iff p).1 hip
    rw [Int.toNat_natCast]
    obtain ⟨V, tag, ⟨cN, vN⟩, h⟩ := h
    obtain ⟨hcell, _, _, _, c0⟩ := h.nodeAt vN
    obtain ⟨d0, d1, _⟩ := hcell a ha
    obtain ⟨n, hN⟩ : ∃ n, Hid (s.n = n) := ⟨_, Lib.hid rfl⟩
    rw [hN.out] at c0 ha
    have ha1 : (a : Int) < n := by omega
    clear h vN hip hcell
    cases h1 : s.inn a with
    | true =>
      rw [h1] at d1
      go_enter Tryd.func17, Tryd.ntmps17
      go_wp2_with fail
      refine HP.out.mono ?_
      rintro e w' ⟨rfl, rfl⟩
      go_wp2
      go_ret
      exact ⟨rfl, rfl⟩
    | false =>
      rw [h1] at d1
      cases h2 : s.asks a with
      | true =>
        rw [h2] at d0
        go_enter Tryd.func17, Tryd.ntmps17
        go_wp2_with fail
        refine HP.out.mono ?_
        rintro e w' ⟨rfl, rfl⟩
        go_wp2
        go_ret
        exact ⟨rfl, rfl⟩
      | false =>
        rw [h2] at d0
        go_enter Tryd.func17, Tryd.ntmps17
        go_wp2_with fail
        refine HP.out.mono ?_
        rintro e w' ⟨rfl, rfl⟩
        go_wp2
        go_ret
        exact ⟨rfl, rfl⟩

def TNet.targetOf (s : TNet) : Int := if s.holder < 0 then s.target else -1

set_option maxHeartbeats 2000000 in
set_option maxRecDepth 100000 in
theorem token_any (S : Nat → Prop) (w : World) (t g : Nat) (s : TNet) (h : TIn S w t g s) (hq : s.queue.length < 1000) :
    Calls Tryd.prog 15 #[.pointer (some ⟨t, 0, none⟩)] w fun e w' => ∃ v, e = .returned (.tuple #[.int .i64 s.holder, .int .i64 s.targetOf, v]) ∧ Rd (NewB w) w' v s.queue ∧ Chg NoF w w' := by
  obtain ⟨V, tag, _, h⟩ := h
  obtain ⟨hQ, c4, _⟩ := h.queueAt
  have c1 : w.cell? ⟨t, 1, none⟩ = some (.int .i64 s.holder) := h.blk.cell 1
  have c2 : w.cell? ⟨t, 2, none⟩ = some (.int .i64 s.target) := h.blk.cell 2
  have HCL := Lib.hid (clone_any (fun _ => True) (V .queue) s.queue w.drew ((Rd.ofOwns hQ (fun _ _ => trivial)).keep ((Chg.refl NoF w).drew) (fun _ _ h => h)) (by omega))
  obtain ⟨qa, qc, hQv⟩ := owns_val hQ
  rw [hQv] at c4 HCL
  have hT : Hid (s.targetOf = if s.holder < 0 then s.target else -1) := Lib.hid rfl
  rw [hT.out]
  obtain ⟨ho, HHO⟩ : ∃ x, Hid (s.holder = x) := ⟨_, Lib.hid rfl⟩
  obtain ⟨ta, HTA⟩ : ∃ x, Hid (s.target = x) := ⟨_, Lib.hid rfl⟩
  obtain ⟨ql, HQL⟩ : ∃ x, Hid (s.queue.length = x) := ⟨_, Lib.hid rfl⟩
  rw [HHO.out] at c1 ⊢
  rw [HTA.out] at c2 ⊢
  rw [HQL.out] at c4 HCL
  clear h hQ hQv hT hq
  by_cases hn : ho < 0
  all_goals
    first | rw [if_pos hn] | rw [if_neg hn]
    go_enter Tryd.func15, Tryd.ntmps15
    go_wp2_with fail
    refine wp_region_plan (Chg NoF w) 13 [(0,true),(1,true),(2,true),(3,true),(4,true),(5,true),(6,true),(7,true),(8,true),(9,false),(10,true),(11,true),(12,true)] mixed (by kernel_rfl) (Chg.refl _ _).drew ?_
    simp only [planOps, List.map_cons, List.map_nil, List.getElem?_cons_zero, List.getElem?_cons_succ, Option.getD_some]
    generalize hops : List.toArray _ = ops
    iterate 9 (refine wpPlan_quiet (v := ?_) rfl (fun _ _ _ h => h) (by intro w1 hS; have s0 := hS.cell_some c1 (fun h => h); have s1 := hS.cell_some c4 (fun h => h); clear hS; go_simp; with_reducible rfl) ?_; (simp only [Act.put, List.setIfInBounds_toArray, List.set_cons_zero, List.set_cons_succ]))
    refine wpPlan_loud rfl (fun K hK => ?_)
    go_simp
    refine HCL.out.mono ?_
    rintro e w1 ⟨v', rfl, hown, hcc⟩
    refine hK _ _ (fun _ => ((Chg.refl NoF w).drew).trans hcc) ?_
    clear hK K
    (try simp only [Act.put, List.setIfInBounds_toArray, List.set_cons_zero, List.set_cons_succ])
    iterate 3 (refine wpPlan_quiet (v := ?_) rfl (fun _ _ _ h => h) (by intro w1 hS; clear hS; go_simp; with_reducible rfl) ?_; (simp only [Act.put, List.setIfInBounds_toArray, List.set_cons_zero, List.set_cons_succ]))
    clear hops
    refine wpPlan_nil ?_
    go_wp2
    go_ret3
    exact ⟨_, rfl, Rd.ofOwns hown (fun b hb => Nat.not_lt.2 (hown.lt b hb).1), ((Chg.refl NoF w).drew).trans hcc⟩

end Go.Proofs.YthblnljjhbdejaaDoor
