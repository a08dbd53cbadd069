/-
  slices.Insert and slices.Clone at frames of two cells.
  Conditions: one frame, put at the head of a slice that has one and is owned; fewer than 100 frames.
-/
import Derived.Test.YtgpjjbfmckcjgaaDoorCopyK
import Derived.Test.YtgpjjbfmckcjgaaDoorAgg
import Derived.Test.YtgpjjbfmckcjgaaDoorMem
import Derived.Test.YtgpjjbfmckcjgaaDoorRegion2
import Derived.Test.YtgpjjbfmckcjgaaDoorClone
import Derived.Lib.Overlaps
import Derived.Lib.AppendZerosOnto
import Derived.Laws.Externs
namespace Go.Proofs.YtgpjjbfmckcjgaaDoor
open Go Go.RowKit

theorem infoFrame : (Tryd.prog.info? 69).map (fun i => (i.zero, i.size, i.bytes)) = some (some (.agg #[.int .i64 0, .int .i64 0]), 2, 16) := by kernel_rfl
theorem sizeFrame : (Tryd.prog.info? 69).map (·.size) = some 2 := by kernel_rfl
theorem szFrame : ∀ w, (sizeOf 69).run Tryd.prog w = .ok 2 w := fun w => by kernel_rfl

def InsPost (w : World) (v : Value) (n : Nat) (xs : List Value) (e : Ending) (w' : World) : Prop :=
  ∃ v', e = .returned v' ∧ w'.ownsRow 0 69 2 v' n xs ∧ Chg (fun k => v.ownBlock = some k) w w' ∧ (∀ b, v'.ownBlock = some b → v.ownBlock = some b ∨ w.heap.size ≤ b) ∧ ∀ g, v.ownBlock = some g → ∀ j u, j < 2 → xs[j]? = some u → w.cell? ⟨g, j, none⟩ = some u → w'.cell? ⟨g, j, none⟩ = some u

theorem apart_any (w : World) (B g la ca off lb cb : Nat) (us : List Value) (hB : Blk w B us) (hne : B ≠ g) (cur : Array Value) (t : TypeId) (hg : w.heap[g]? = some (.cells cur t (0, 0))) (hc : cur.size ≠ 0) :
    (callFunc 42 #[.slice (some ⟨B, 0, none⟩) la ca, .slice (some ⟨g, off, none⟩) lb cb]).run Tryd.prog w = .ok (.value (.bool false)) w := by
  obtain ⟨e, hB'⟩ := hB
  rw [run_callFunc_extern Tryd.func42 (by kernel_rfl) (by kernel_rfl) (by kernel_rfl) (e := Extern.SlicesOverlaps.overlaps #[63, 63] #[4]) (by kernel_rfl),
    Lib.run_overlaps_apart w 63 4 69 Tryd.underlying63 2 szFrame ⟨B, 0, none⟩ ⟨g, off, none⟩ la ca lb cb hne e t us.length cur.size (by simp [World.shape?, hB']) (by simp [World.shape?, hg]) hc (by simp [World.frozen?, hB']) (by simp [World.frozen?, hB'])]
  rfl

set_option maxHeartbeats 4000000 in
set_option maxRecDepth 100000 in
theorem insert_room (w : World) (g n c : Nat) (xs : List Value) (cur : Array Value) (u0 u1 : Value) (B cB : Nat) (hg : w.heap[g]? = some (.cells cur 69 (0, 0))) (hcs : cur.size = c * 2) (hxs : cur.toList.take (n * 2) = xs) (hxl : xs.length = n * 2) (hn : 0 < n) (hn8 : n ≤ 100) (hroom : n + 1 ≤ c) (hcm : c ≤ maxLen)
    (hB : Blk w B [u0, u1]) (hne : B ≠ g) (h0 : u0.oneCell' = true) (h1 : u1.oneCell' = true) (hx1 : ∀ u ∈ xs, u.oneCell' = true) :
    Calls Tryd.prog 37 #[.slice (some ⟨g, 0, none⟩) n c, .int .i64 0, .slice (some ⟨B, 0, none⟩) 1 cB] w (InsPost w (.slice (some ⟨g, 0, none⟩) n c) (n + 1) (u0 :: u1 :: xs)) := by
  have HG := Lib.hid hg
  have HB := Lib.hid hB
  have hc1 : ¬ c = 1 := by omega
  have hc0 : ¬ c = 0 := by omega
  have hn0 : ¬ (0 : Int) = (n : Int) := by omega
  have hn0' : ((0 : Int) == (n : Int)) = false := by rw [beq_eq_false_iff_ne]; omega
  have hw1 : wrap64 ((n : Int) + 1) = n + 1 := IntWalk.wrap64_in _ (by omega)
  have hgt : ¬ (c : Int) < (n : Int) + 1 := by omega
  have hcle : (n : Int) + 1 ≤ c := by omega
  have hc63 : c ≤ 9223372036854775807 := hcm
  have HOV := Lib.hid (fun lb cb => apart_any w B g 1 cB 2 lb cb [u0, u1] hB hne cur _ hg (by omega))
  go_enter Tryd.func37, Tryd.ntmps37
  go_wp2_with (simp only [HOV.out])
  have hwr1 : IntKind.i64.wrap 1 = 1 := rfl
  have hz1 : (0 : Int) ≤ (n : Int) + 1 := by omega
  have hz2 : (1 : Int) ≤ (n : Int) + 1 := by omega
  have hmin : Nat.min (n + 1) n = n := Nat.min_eq_right (by omega)
  have hmin2 : Nat.min 1 (n + 1) = 1 := Nat.min_eq_left (by omega)
  refine wp_region_plan (Chg NoF w) 8 [(0,true),(1,true),(2,true),(3,true),(4,true),(5,true),(6,true),(7,true),(8,false)] mixed (by kernel_rfl) (Chg.refl _ _).drew ?_
  simp only [planOps, List.map_cons, List.map_nil, List.getElem?_cons_zero, List.getElem?_cons_succ, Option.getD_some]
  generalize hops : List.toArray _ = ops
  iterate 8 (refine wpPlan_quiet (v := ?_) rfl (fun _ _ _ h => h) (by intro w1 hS; clear hS; go_simp; with_reducible rfl) ?_; (simp only [Act.put, List.setIfInBounds_toArray, List.set_cons_zero, List.set_cons_succ]))
  refine wpPlan_loud rfl (fun K hK => ?_)
  have hout1 : cur.toList.take 2 ++ xs ++ cur.toList.drop (2 + xs.length) = (cur.toList.take 2 ++ (xs ++ cur.toList.drop (2 + xs.length))) := List.append_assoc _ _ _
  refine wp_copyK (P := Tryd.prog) _ _ 63 63 rfl 69 2 Tryd.underlying63 sizeFrame g 2 n (c - 1) ⟨g, 0, none⟩ (n + 1) c (by rfl) (by rfl) cur _ HG.out xs (by rw [hmin]; exact hxl) (fun j v hj => ?_) (by omega) hx1 _ hout1 ?_
  · have hjl : j < n * 2 := by have := (List.getElem?_eq_some_iff.1 hj).1; omega
    rw [← hxs, List.getElem?_take, if_pos hjl] at hj
    rw [Addr.add_lit, Nat.zero_add]
    have hgd : w.drew.heap[g]? = some (.cells cur 69 (0, 0)) := HG.out
    simp [World.cell?, hgd] at hj ⊢
    exact hj
  intro w2 hg2 hc2
  have HG2 := Lib.hid hg2
  have HC2 : Hid (Chg (fun b => b = g) w w2) := Lib.hid ((((Chg.refl NoF w).drew).ofNo).trans hc2)
  have HB2 := Lib.hid (HB.out.keep HC2.out hne)
  refine hK _ _ (fun h => absurd rfl h) ?_
  clear hK K hg2 hc2
  clear hops
  refine wpPlan_nil ?_
  have ht2 : (cur.toList.take 2).length = 2 := by rw [List.length_take, Array.length_toList]; omega
  have hout2 : (cur.toList.take 2 ++ (xs ++ cur.toList.drop (2 + xs.length))).toArray.toList.take 0 ++ [u0, u1] ++ (cur.toList.take 2 ++ (xs ++ cur.toList.drop (2 + xs.length))).toArray.toList.drop (0 + [u0, u1].length) = u0 :: u1 :: (xs ++ cur.toList.drop (2 + xs.length)) := by
    show [] ++ [u0, u1] ++ (cur.toList.take 2 ++ (xs ++ cur.toList.drop (2 + xs.length))).drop 2 = _
    rw [List.drop_append_of_le_length (by omega), List.drop_of_length_le (by omega)]
    rfl
  have hsz2 : 0 + [u0, u1].length ≤ (cur.toList.take 2 ++ (xs ++ cur.toList.drop (2 + xs.length))).toArray.size := by
    simp only [List.size_toArray, List.length_append, ht2]; simp
  have hsrc2 : ∀ j v, [u0, u1][j]? = some v → w2.cell? ((⟨B, 0, none⟩ : Addr).add j) = some v := fun j v hj => by
    rw [Addr.add_lit, Nat.zero_add, HB2.out.cell j]; exact hj
  have h12 : ∀ v ∈ [u0, u1], v.oneCell' = true := fun v hv => by
    simp at hv; rcases hv with rfl | rfl
    · exact h0
    · exact h1
  go_wp2_with (refine wpList_plain rfl (fun K hK => wp_copyK (P := Tryd.prog) _ _ 63 63 rfl 69 2 Tryd.underlying63 sizeFrame g 0 (n + 1) c ⟨B, 0, none⟩ 1 cB (by rfl) (by rfl) _ _ HG2.out [u0, u1] (by rw [hmin2]; rfl) hsrc2 hsz2 h12 _ hout2 ?_); intro w3 hg3 hc3; have HG3 := Lib.hid hg3; have HC3 := Lib.hid hc3; clear hg3 hc3; refine hK _ _ ?_; clear hK)
  go_ret
  refine ⟨_, rfl, ⟨by simp; omega, .inr ⟨g, c, _, rfl, Nat.zero_le _, HG3.out, hroom, hcm, ?_, ?_⟩⟩, (HC2.out.trans HC3.out).mono (fun b _ hb => by have hb : b = g := hb; rw [hb]; rfl), fun b hb => .inl hb, fun g' hg' j u hj hju _ => ?_⟩
  · simp only [List.size_toArray, List.length_cons, List.length_append, List.length_drop, Array.length_toList]; omega
  · show (u0 :: u1 :: (xs ++ cur.toList.drop (2 + xs.length))).take ((n + 1) * 2) = u0 :: u1 :: xs
    have : (n + 1) * 2 = n * 2 + 1 + 1 := by omega
    rw [this, List.take_succ_cons, List.take_succ_cons, ← hxl, List.take_left']
    rfl
  · obtain rfl : g = g' := by simpa [Value.ownBlock] using hg'
    have hg3 := HG3.out
    have e2 : j = 0 ∨ j = 1 := by omega
    rcases e2 with rfl | rfl
    · simp [World.cell?, hg3] at hju ⊢; exact hju
    · simp [World.cell?, hg3] at hju ⊢; exact hju

set_option maxHeartbeats 4000000 in
set_option maxRecDepth 100000 in
theorem insert_grow (w : World) (g n c : Nat) (xs : List Value) (cur : Array Value) (u0 u1 : Value) (B cB : Nat) (hg : w.heap[g]? = some (.cells cur 69 (0, 0))) (hxs : cur.toList.take (n * 2) = xs) (hxl : xs.length = n * 2) (hn : 0 < n) (hn8 : n ≤ 100) (hnc : n ≤ c) (hroom : ¬ n + 1 ≤ c)
    (hB : Blk w B [u0, u1]) (h0 : u0.oneCell' = true) (h1 : u1.oneCell' = true) (hx1 : ∀ u ∈ xs, u.oneCell' = true) :
    Calls Tryd.prog 37 #[.slice (some ⟨g, 0, none⟩) n c, .int .i64 0, .slice (some ⟨B, 0, none⟩) 1 cB] w (InsPost w (.slice (some ⟨g, 0, none⟩) n c) (n + 1) (u0 :: u1 :: xs)) := by
  obtain rfl : c = n := by omega
  have HG := Lib.hid hg
  have HB := Lib.hid hB
  have hn0 : ¬ (0 : Int) = (c : Int) := by omega
  have hn0' : ((0 : Int) == (c : Int)) = false := by rw [beq_eq_false_iff_ne]; omega
  have hw1 : wrap64 ((c : Int) + 1) = c + 1 := IntWalk.wrap64_in _ (by omega)
  have hgt : (c : Int) < (c : Int) + 1 := by omega
  obtain ⟨i0, hi0, hz0, hzs, hzb⟩ := info_parts infoFrame
  obtain ⟨G, hG⟩ : ∃ G, G = grownCap w (c + 1) c 69 := ⟨_, rfl⟩
  have hGn : c + 1 ≤ G := by rw [hG]; exact grownCap_ge w _ _ _
  have hG63 : G ≤ maxLen := by rw [hG]; exact grownCap_le_maxLen w (c + 1) c _ (by unfold maxLen; omega)
  obtain ⟨ROW, hROW⟩ : ∃ ROW : Array Value, ROW = (#[] : Array Value) ++ Builtin.zeroCells (Value.agg #[.int .i64 0, .int .i64 0]).cells (c + 1) ++ Builtin.zeroCells (Value.agg #[.int .i64 0, .int .i64 0]).cells (G - (c + 1)) := ⟨_, rfl⟩
  have hRl : ROW.size = G * 2 := by
    rw [hROW]
    simp [Builtin.zeroCells, Value.cells]
    omega
  have HRZ : Hid (∀ ty, (Builtin.append_ #[63, 3] ty #[.slice (some ⟨g, 0, none⟩) 0 c, .int .i64 ((c : Int) + 1)]).run Tryd.prog w =
      .ok (.slice (some ⟨w.heap.size, 0, none⟩) (c + 1) G) (w.drew.alloc (.cells ROW 69))) := Lib.hid fun ty => by
    have h := Go.Lib.run_append_grow_zeros w 63 3 ty 69 i0 _ .i64 .i64 Tryd.underlying63 Tryd.underlying3 hi0 hz0 (some ⟨g, 0, none⟩) 0 c [] (by rw [hzs]; exact run_firstCells_some w.drew 2 0 ⟨g, 0, none⟩ 0 c [] rfl (fun j v hj => by simp at hj)) (c + 1) (by omega) (by omega) (by omega) (by omega) (by rw [hzb]; omega) (by rw [hzb, Nat.zero_add]; exact growslice_fits (by omega) (by omega))
    rw [Nat.zero_add, ← hG, ← hROW] at h
    exact h
  clear hROW hG hi0 hz0 hzs hzb
  go_enter Tryd.func37, Tryd.ntmps37
  have hmin1 : Nat.min 1 (c + 1) = 1 := Nat.min_eq_left (by omega)
  have hminc : Nat.min c c = c := Nat.min_self c
  have HG1 : Hid ((w.drew.alloc (.cells ROW 69)).heap[w.heap.size]? = some (.cells ROW 69 (0, 0))) := Lib.hid (heap_alloc_new w.drew _)
  have HC1 : Hid (Chg NoF w (w.drew.alloc (.cells ROW 69))) := Lib.hid (((Chg.refl NoF w).drew).alloc _)
  generalize w.drew.alloc _ = W1 at *
  have HB1 := Lib.hid (HB.out.keep HC1.out (fun h => h))
  have hout1 : ROW.toList.take 0 ++ [u0, u1] ++ ROW.toList.drop (0 + [u0, u1].length) = u0 :: u1 :: ROW.toList.drop 2 := rfl
  have hsrc1 : ∀ j v, [u0, u1][j]? = some v → W1.cell? ((⟨B, 0, none⟩ : Addr).add j) = some v := fun j v hj => by
    rw [Addr.add_lit, Nat.zero_add, HB1.out.cell j]; exact hj
  have h12 : ∀ v ∈ [u0, u1], v.oneCell' = true := fun v hv => by
    simp at hv; rcases hv with rfl | rfl
    · exact h0
    · exact h1
  have hsz1 : 0 + [u0, u1].length ≤ ROW.size := by show 2 ≤ ROW.size; omega
  have hg1 : ¬ G = 1 := by omega
  have hgw : g < w.heap.size := by
    have := (Array.getElem?_eq_some_iff.1 HG.out).1; exact this
  have hrun : (Builtin.copy_ #[63, 63] 3 #[.slice (some ⟨w.heap.size, 0, none⟩) (c + 1) G, .slice (some ⟨B, 0, none⟩) 1 cB]).run Tryd.prog W1 = .ok (.int .i64 1) (W1.setRow w.heap.size (u0 :: u1 :: ROW.toList.drop 2).toArray) := by
    have h := run_copy_rowk (P := Tryd.prog) W1 63 63 3 69 2 w.heap.size 0 (c + 1) G ⟨B, 0, none⟩ 1 cB ROW _ [u0, u1] Tryd.underlying63 sizeFrame HG1.out (by rw [hmin1]; rfl) hsrc1 hsz1 h12
    rw [hout1, hmin1] at h
    exact h
  go_wp2_with (at_builtin; refine Lib.wpList_append_run _ rfl _ _ _ _ rfl _ _ rfl rfl _ _ (HRZ.out _) ?_)
  have HG3 : Hid ((W1.setRow w.heap.size (u0 :: u1 :: ROW.toList.drop 2).toArray).heap[w.heap.size]? = some (.cells (u0 :: u1 :: ROW.toList.drop 2).toArray 69 (0, 0))) := Lib.hid (setRow_heap W1 _ _ _ _ _ HG1.out)
  have HC3 : Hid (Chg NoF w (W1.setRow w.heap.size (u0 :: u1 :: ROW.toList.drop 2).toArray)) := Lib.hid (HC1.out.trans2 (G := fun k => k = w.heap.size) ⟨rfl, rfl, rfl, by simp [World.setRow], fun j _ hj => setRow_other W1 _ j _ hj⟩ (fun i _ hi => .inr (by have hi : i = w.heap.size := hi; omega)))
  clear hrun hsrc1 HB1
  generalize W1.setRow _ _ = w3 at *
  have hwr1 : IntKind.i64.wrap 1 = 1 := rfl
  have hz1 : (0 : Int) ≤ (c : Int) := by omega
  have hz2 : (1 : Int) ≤ (c : Int) + 1 := by omega
  have hG3c : w3.heap[g]? = some (.cells cur 69 (0, 0)) := by rw [HC3.out.block g hgw (fun h => h)]; exact HG.out
  have HG3c := Lib.hid hG3c
  refine wp_region_plan (Chg NoF w3) 8 [(0,true),(1,true),(2,true),(3,true),(4,true),(5,true),(6,true),(7,true),(8,false)] mixed (by kernel_rfl) (Chg.refl _ _).drew ?_
  simp only [planOps, List.map_cons, List.map_nil, List.getElem?_cons_zero, List.getElem?_cons_succ, Option.getD_some]
  generalize hops : List.toArray _ = ops
  iterate 8 (refine wpPlan_quiet (v := ?_) rfl (fun _ _ _ h => h) (by intro w1 hS; clear hS; go_simp; with_reducible rfl) ?_; (simp only [Act.put, List.setIfInBounds_toArray, List.set_cons_zero, List.set_cons_succ]))
  refine wpPlan_loud rfl (fun K hK => ?_)
  have hout3 : (u0 :: u1 :: ROW.toList.drop 2).toArray.toList.take 2 ++ xs ++ (u0 :: u1 :: ROW.toList.drop 2).toArray.toList.drop (2 + xs.length) = u0 :: u1 :: (xs ++ ROW.toList.drop (2 + xs.length)) := by
    show [u0, u1] ++ xs ++ (u0 :: u1 :: ROW.toList.drop 2).drop (2 + xs.length) = _
    have e : 2 + xs.length = xs.length + 1 + 1 := by omega
    rw [e, List.drop_succ_cons, List.drop_succ_cons, List.drop_drop]
    have e2 : 2 + xs.length = xs.length + 1 + 1 := by omega
    simp [e2]
  refine wp_copyK (P := Tryd.prog) _ _ 63 63 rfl 69 2 Tryd.underlying63 sizeFrame w.heap.size 2 c (G - 1) ⟨g, 0, none⟩ c c (by rfl) (by rfl) _ _ HG3.out xs (by rw [hminc]; exact hxl) (fun j v hj => ?_) (by simp only [List.size_toArray, List.length_cons, List.length_drop, Array.length_toList]; omega) hx1 _ hout3 ?_
  · have hjl : j < c * 2 := by have := (List.getElem?_eq_some_iff.1 hj).1; omega
    rw [← hxs, List.getElem?_take, if_pos hjl] at hj
    rw [Addr.add_lit, Nat.zero_add]
    have hgd : w3.drew.heap[g]? = some (.cells cur 69 (0, 0)) := HG3c.out
    simp [World.cell?, hgd] at hj ⊢
    exact hj
  intro w4 hg4 hc4
  have HG4 := Lib.hid hg4
  have HC4 : Hid (Chg NoF w w4) := Lib.hid ((HC3.out.drew).trans2 hc4 (fun i _ hi => .inr (by have hi : i = w.heap.size := hi; omega)))
  refine hK _ _ (fun h => absurd rfl h) ?_
  clear hK K hg4 hc4
  clear hops
  refine wpPlan_nil ?_
  clear hG3c
  go_wp2
  go_ret
  refine ⟨_, rfl, ⟨by simp; omega, .inr ⟨w.heap.size, G, _, rfl, Nat.zero_le _, HG4.out, hGn, hG63, ?_, ?_⟩⟩, HC4.out.ofNo, fun b hb => .inr ?_, fun g' _ j u _ _ hc => HC4.out.cell_some hc (fun h => h)⟩
  · simp only [List.size_toArray, List.length_cons, List.length_append, List.length_drop, Array.length_toList]; omega
  · show (u0 :: u1 :: (xs ++ ROW.toList.drop (2 + xs.length))).take ((c + 1) * 2) = u0 :: u1 :: xs
    have : (c + 1) * 2 = c * 2 + 1 + 1 := by omega
    rw [this, List.take_succ_cons, List.take_succ_cons, ← hxl, List.take_left']
    rfl
  · obtain rfl : w.heap.size = b := by simpa [Value.ownBlock] using hb
    exact Nat.le_refl _

/-- One frame put at the head. -/
theorem insert_any (w : World) (v : Value) (n : Nat) (xs : List Value) (u0 u1 : Value) (B cB : Nat) (hown : w.ownsRow 0 69 2 v n xs) (hn : 0 < n) (hn8 : n ≤ 100) (hB : Blk w B [u0, u1]) (hne : v.ownBlock ≠ some B) (h0 : u0.oneCell' = true) (h1 : u1.oneCell' = true) (hx1 : ∀ u ∈ xs, u.oneCell' = true) :
    Calls Tryd.prog 37 #[v, .int .i64 0, .slice (some ⟨B, 0, none⟩) 1 cB] w (InsPost w v (n + 1) (u0 :: u1 :: xs)) := by
  obtain ⟨hl, h⟩ := hown
  rcases h with ⟨_, h⟩ | ⟨g, c, cur, rfl, _, hg, hnc, hcm, hcs, ht⟩
  · omega
  by_cases hr : n + 1 ≤ c
  · exact insert_room w g n c xs cur u0 u1 B cB hg hcs ht hl hn hn8 hr hcm hB (fun e => hne (by rw [e]; rfl)) h0 h1 hx1
  · exact insert_grow w g n c xs cur u0 u1 B cB hg ht hl hn hn8 hnc hr hB h0 h1 hx1

set_option maxHeartbeats 2000000 in
set_option maxRecDepth 100000 in
/-- slices.Clone at frames: of the cells that lie there. -/
theorem cloneF_any (w : World) (b off n c : Nat) (vs : List Value) (hvl : vs.length = n * 2) (hcell : ∀ j u, vs[j]? = some u → w.cell? ⟨b, off + j, none⟩ = some u) (hone : ∀ u ∈ vs, u.oneCell' = true) (hn : n ≤ 1000) :
    Calls Tryd.prog 41 #[.slice (some ⟨b, off, none⟩) n c] w fun e w' => ∃ v', e = .returned v' ∧ w'.ownsRow w.heap.size 69 2 v' n vs ∧ Chg NoF w w' := by
  obtain ⟨i0, hi, hz0, hz1, hz2⟩ := info_parts infoFrame
  have q22 : ∀ (w : World) (a : Option Addr) (n c n' c' : Nat), (binOp .eql 63 (.slice a n c) (.slice none n' c')).run Tryd.prog w = .ok (.bool a.isNone) w := fun w a n c n' c' => Lib.run_eql_slice_nil w _ _ a n c n' c' Tryd.underlying63
  have HL := Lib.hid hvl
  have HO := Lib.hid hone
  have HC := Lib.hid hcell
  clear hvl hone hcell
  go_enter Tryd.func41, Tryd.ntmps41
  go_wp2_with (at_builtin; refine wpList_append_own _ rfl _ _ 63 rfl w.heap.size 69 i0 (.agg #[.int .i64 0, .int .i64 0]) 2 16 Tryd.underlying63 hi hz0 hz1 hz2 rfl (by decide) _ _ _ rfl (World.ownsRow_made w #[] 0 (Nat.le_refl _) (Nat.zero_le _) rfl) ⟨b, off, none⟩ n c vs rfl ?qc1 ?qc2 ?qc3 ?qc4 ?qc5 ?qc6 ?_)
  case qc1 => rw [HL.out]
  case qc2 =>
    intro j u hj
    rw [Addr.add_lit]
    exact Lib.cell?_alloc_some _ (HC.out j u hj)
  case qc3 => exact HO.out
  case qc4 => unfold maxLen; omega
  case qc5 => omega
  case qc6 => simp
  intro v' w1 hown hgrow hnil
  go_wp2
  go_ret
  refine ⟨v', rfl, by simpa using hown, ?_⟩
  refine ((Chg.refl _ w).alloc _).grown hgrow (fun k hk => .inr ?_)
  simp [Value.ownBlock] at hk; omega

end Go.Proofs.YtgpjjbfmckcjgaaDoor
