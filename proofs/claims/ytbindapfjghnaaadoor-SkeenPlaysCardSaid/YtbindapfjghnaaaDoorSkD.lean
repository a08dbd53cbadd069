/-
  The net that tells all the same in the same order: sending.
  Conditions: a net as New made it, behind any deeds.
-/
import Derived.Test.YtbindapfjghnaaaDoorSkC
namespace Go.Proofs.YtbindapfjghnaaaDoor
open Go Go.RowKit

theorem infoState : (Tryd.prog.info? 58).map (fun i => (i.zero, i.size, i.bytes)) = some (some (.agg #[.int .i64 0, .bool false, .bool false]), 3, 16) := by kernel_rfl
theorem infoStates : (Tryd.prog.info? 52).map (fun i => (i.zero, i.size, i.bytes)) = some (some (.slice none 0 0), 1, 24) := by kernel_rfl

theorem made_states (s : SNet) (n : Nat) : (madeCells (Value.agg #[.int .i64 0, .bool false, .bool false]).cells (n * 3)).toList = grid n 3 (s.send0.cell s.m) := by
  have e : (Value.agg #[.int .i64 0, .bool false, .bool false]).cells = #[.int .i64 0, .bool false, .bool false] := rfl
  rw [e]
  apply List.ext_getElem?
  intro j
  by_cases hj : j < n * 3
  · have h3 : j % 3 < 3 := Nat.mod_lt _ (by omega)
    have h0 : (grid n 3 (s.send0.cell s.m))[j]? = some (s.send0.cell s.m (j / 3) (j % 3)) := by simp [grid, hj]
    rw [h0]
    simp [madeCells, hj]
    have : j % 3 = 0 ∨ j % 3 = 1 ∨ j % 3 = 2 := by omega
    rcases this with h | h | h <;> simp [h, SNet.cell, SNet.send0]
  · simp [madeCells, grid, hj]

set_option maxHeartbeats 4000000 in
set_option maxRecDepth 100000 in
theorem send_any (S : Nat → Prop) (w : World) (t g : Nat) (s : SNet) (h : SIn S w t g s) (hs : SPre s) :
    Calls Tryd.prog 8 #[.pointer (some ⟨t, 0, none⟩)] w (TwoPost S w t g s.sendVal s.sendErr s.send) := by
  have HIN := Lib.hid h
  obtain ⟨V, tag, ⟨cN, vN⟩, h⟩ := h
  obtain ⟨bC, cC, -, -, -, -, -, c0⟩ := h.clkAt hs.n1
  obtain ⟨hrow, c1, hA, aA, cA, vA⟩ := h.atsAt
  have hn := hs.n4
  have hn1 := hs.n1
  have hm := hs.m20
  by_cases hfull : s.m = 20
  · have hE : Hid (s.sendErr = 4 ∧ s.sendVal = 0 ∧ s.send = s) := Lib.hid (by unfold SNet.sendErr SNet.sendVal SNet.send; rw [if_pos hfull, if_pos hfull, if_pos hfull]; exact ⟨rfl, rfl, rfl⟩)
    rw [vA, hfull] at c1
    clear h vN hrow hA vA hs hn hn1 hm c0
    go_enter Tryd.func8, Tryd.ntmps8
    go_wp2
    go_ret2
    exact ⟨by rw [hE.out.1, hE.out.2.1]; rfl, by rw [hE.out.2.2]; exact HIN.out, Chg.refl _ _⟩
  · have hE : Hid (s.sendErr = 0 ∧ s.sendVal = s.m ∧ s.send = s.send0) := Lib.hid (by unfold SNet.sendErr SNet.sendVal SNet.send; rw [if_neg hfull, if_neg hfull, if_neg hfull]; exact ⟨rfl, rfl, rfl⟩)
    have HH := Lib.hid h
    have HN := Lib.hid vN
    have HTS := Lib.hid h.tNotS
    have HNS := Lib.hid (fun b (hb : (V .ats).ownBlock = some b) => (hA b hb).2.1)
    have nt : ¬ (V .ats).ownBlock = some t := fun e => (hA t e).2.2.1 rfl
    have f1 := h.blk.frozen 1
    have tlt := h.blk.lt
    have hz : ((s.m : Int) == 20) = false := by rw [beq_eq_false_iff_ne]; omega
    have HMADE := Lib.hid (made_states s s.n)
    have HADD := Lib.hid (fun (w1 w2 : World) (hc0 : Chg NoF w w1) => SAt.addAt (w2 := w2) h hc0)
    have HV2 : Hid (V .ats = .slice aA s.m cA) := Lib.hid vA
    have c1' := c1
    rw [vA] at c1' nt hrow
    have HCA := Lib.hid (fun b (hb : (Value.slice aA s.m cA).ownBlock = some b) => HNS.out b (by rw [HV2.out]; exact hb))
    have hlt : s.m < 20 := by omega
    obtain ⟨n, hN⟩ : ∃ n, Hid (s.n = n) := ⟨_, Lib.hid rfl⟩
    obtain ⟨m, hM⟩ : ∃ m, Hid (s.m = m) := ⟨_, Lib.hid rfl⟩
    rw [hN.out] at c0 hn hn1 HMADE HADD
    rw [hM.out] at c1' hm nt hrow hz HV2 HADD
    rw [hM.out] at HMADE HCA hlt
    have HFULL := Lib.hid hfull
    clear h vN hA vA hs c1 hfull
    go_enter Tryd.func8, Tryd.ntmps8
    go_wp2_with fail
    refine wp_region_plan (Chg (fun b => (Value.slice aA m cA).ownBlock = some b) w) 15 [(0,true),(1,true),(2,true),(3,true),(4,true),(5,true),(6,true),(7,true),(8,true),(9,true),(10,false),(11,false),(12,false),(13,true),(14,true),(15,false)] mixed (by kernel_rfl) (Chg.refl _ _).drew ?_
    simp only [planOps, List.map_cons, List.map_nil, List.getElem?_cons_zero, List.getElem?_cons_succ, Option.getD_some]
    generalize hops : List.toArray _ = ops
    iterate 10 (refine wpPlan_quiet (v := ?_) rfl (fun _ _ _ h => h) (by intro w1 hS; have s0 := hS.cell_some c0 nt; have s1 := hS.cell_some c1' nt; clear hS; go_simp; with_reducible rfl) ?_; (simp only [Act.put, List.setIfInBounds_toArray, List.set_cons_zero, List.set_cons_succ]))
    refine wpPlan_loud rfl (fun K hK => ?_)
    refine wp_make (P := Tryd.prog) 52 _ _ rfl 58 (.agg #[.int .i64 0, .bool false, .bool false]) 3 16 infoState Tryd.underlying52 .i64 .i64 n (by rfl) (by rfl) (by omega) (by omega) ?_
    intro g3 w3 hg3 own3 hc3 hlt3
    have HG3 := Lib.hid hg3
    clear hg3
    have hc3' : Chg NoF w w3 := ((Chg.refl NoF w).drew).trans hc3
    refine hK _ _ (fun _ => hc3'.ofNo) ?_
    clear hK K
    (try simp only [Act.put, List.setIfInBounds_toArray, List.set_cons_zero, List.set_cons_succ])
    refine wpPlan_loud rfl (fun K hK => ?_)
    go_simp
    refine hK _ _ (fun _ => (hc3'.alloc _).ofNo) ?_
    clear hK K
    (try simp only [Act.put, List.setIfInBounds_toArray, List.set_cons_zero, List.set_cons_succ])
    refine wpPlan_loud rfl (fun K hK => ?_)
    refine wp_app _ _ 46 rfl 52 (.slice none 0 0) 1 24 infoStates Tryd.underlying46 rfl (by decide) (.slice aA m cA) m _ (by rfl) ((hc3'.alloc _).row hrow (fun _ _ hf => hf)) w3.heap.size 1 [.slice (some ⟨g3, 0, none⟩) n n] (by rfl) ⟨52, (0, 0), heap_alloc_new w3 _⟩ rfl (by simp [Value.oneCell']) (by omega) (by omega) ?_
    intro g4 cap4 w4 hown4 hc4 hat4 hlt4
    have hc5 : Chg (fun b => (Value.slice aA m cA).ownBlock = some b) w w4 := ((hc3'.alloc _).ofNo).trans hc4
    refine hK _ _ (fun _ => hc5) ?_
    clear hK K
    (try simp only [Act.put, List.setIfInBounds_toArray, List.set_cons_zero, List.set_cons_succ])
    iterate 2 (refine wpPlan_quiet (v := ?_) rfl (fun _ _ _ h => h) (by intro w1 hS; have s0 := hS.cell_some c1' nt; clear hS; go_simp; with_reducible rfl) ?_; (simp only [Act.put, List.setIfInBounds_toArray, List.set_cons_zero, List.set_cons_succ]))
    refine wpPlan_loud rfl (fun K hK => ?_)
    have s2 := hc5.cell_some c1' nt
    have f2 : w4.frozen? ⟨t, 1, none⟩ = false := by rw [World.frozen?_of_block (hc5.block t tlt nt)]; exact f1
    go_simp
    refine hK _ _ (fun h => absurd rfl h) ?_
    clear hK K
    clear hops
    refine wpPlan_nil ?_
    rw [HMADE.out] at own3
    have hADD := HADD.out _ w4 (hc3'.alloc _) (.slice (some ⟨g3, 0, none⟩) n n) (((Chg.refl NoF w3).alloc _).row own3 (fun _ _ hf => hf)) (fun b hb => by
      obtain rfl : g3 = b := by simpa [Value.ownBlock] using hb
      rw [HG3.out]; exact Nat.le_refl _) (by rw [HV2.out]; exact hc4) (.slice (some ⟨g4, 0, none⟩) (m + 1) cap4) hown4 (fun b hb => by rw [HV2.out]; exact hat4 b hb)
    have HI : Hid (SIn S (w4.setCell ⟨t, 1, none⟩ (.slice (some ⟨g4, 0, none⟩) (m + 1) cap4)) t g s.send) := Lib.hid (by
      obtain ⟨tag', hA⟩ := hADD
      rw [hE.out.2.2]
      exact ⟨_, tag', ⟨cN, by show V .gots = _; rw [HN.out]; rfl⟩, hA⟩)
    have HC : Hid (Chg (fun k => ¬ S k) w (w4.setCell ⟨t, 1, none⟩ (.slice (some ⟨g4, 0, none⟩) (m + 1) cap4))) := Lib.hid ((hc5.mono fun b _ hb => HCA.out b hb).setCell (.inl HTS.out) _)
    have c9 : (w4.setCell ⟨t, 1, none⟩ (.slice (some ⟨g4, 0, none⟩) (m + 1) cap4)).cell? ⟨t, 1, none⟩ = some (.slice (some ⟨g4, 0, none⟩) (m + 1) cap4) := by
      go_simp
    clear hADD hc5 hown4 hat4 hlt4 hc4 hc3' hc3 own3 hlt3 c0 c1' f1 tlt nt hrow s2 f2 HV2 HADD HMADE
    generalize w4.setCell ⟨t, 1, none⟩ _ = w5 at *
    have hwr : wrap64 ((m : Int) + 1 - 1) = m := by rw [Int.add_sub_cancel]; exact IntWalk.wrap64_in _ (by omega)
    go_wp2
    go_ret2
    exact ⟨by rw [hE.out.1, hE.out.2.1, hM.out]; rfl, HI.out, HC.out⟩

end Go.Proofs.YtbindapfjghnaaaDoor
