/-
  The document's answers about the net of one order: how one is made.
  Conditions: at most four nodes.
-/
import Derived.Test.YtbindapfjghnaaaDoorSkO
import Derived.Test.YtbindapfjghnaaaDoorRegion3
namespace Go.Proofs.YtbindapfjghnaaaDoor
open Go Go.RowKit

theorem loud_at {P : Program} {Q : Exit → Act → World → Prop} {S : World → Prop} {L : Nat} {ops : Array Oper} {l : List Oper} {i : Nat} {oi : Oper} {K : Act → World → Prop} {a : Act} {w : World} (ho : opAt l i = oi) (hg : oi.guard = none)
    (h : ∀ K' : Act → World → Prop, (∀ a' w', (i ≠ L → S w') → K a' w' → K' a' w') → oi.wp P a w K' Q) : loud P ops Q S L i (opAt l i) K a w := by
  subst ho; exact loud_mk hg h

/-- What the makes leave. -/
def MadeF (n : Nat) (i : Nat) (v : Value) (g : Nat) (w : World) : Prop :=
  v = .slice (some ⟨g, 0, none⟩) n n ∧ if i = 1 then w.ownsRow 0 3 1 v n ((List.range n).map fun _ => .int .i64 0) else w.ownsRow 0 29 1 v n ((List.range n).map fun _ => .slice none 0 0)
theorem MadeF.keep (n i : Nat) (v : Value) (g : Nat) (w w' : World) (h : MadeF n i v g w) (hc : Chg NoF w w') : MadeF n i v g w' := by
  refine ⟨h.1, ?_⟩
  have h2 := h.2
  by_cases e : i = 1
  · rw [if_pos e] at h2 ⊢; exact hc.row h2 (fun _ _ hf => hf)
  · rw [if_neg e] at h2 ⊢; exact hc.row h2 (fun _ _ hf => hf)

set_option maxHeartbeats 4000000 in
set_option maxRecDepth 100000 in
theorem newSkeen_ref (S : Nat → Prop) (n : Nat) (h1 : 1 ≤ n) (h4 : n ≤ 4) (w : World) :
    Calls Tryd.prog 6 #[.int .i64 n] w fun e w' => ∃ v, e = .returned v ∧ AnsF S w (sf (SNet.init n)) v w' := by
  go_enter Tryd.func6, Tryd.ntmps6
  go_upto_region 1 with fail
  have HB0 : Hid (Blk (w.alloc (.cells #[.slice none 0 0, .slice none 0 0, .slice none 0 0, .slice none 0 0] 31)) w.heap.size [.slice none 0 0, .slice none 0 0, .slice none 0 0, .slice none 0 0]) := Lib.hid (Blk.alloc w [.slice none 0 0, .slice none 0 0, .slice none 0 0, .slice none 0 0] 31)
  have HC0 : Hid (Chg NoF w (w.alloc (.cells #[.slice none 0 0, .slice none 0 0, .slice none 0 0, .slice none 0 0] 31))) := Lib.hid ((Chg.refl NoF w).alloc _)
  generalize w.alloc _ = wa at *
  have HSA : Hid (w.heap.size < wa.heap.size) := Lib.hid HB0.out.lt
  refine wp_region_many (Chg NoF wa) 5 [0, 2] [1, 3] (.q 4 (.l 5 .nil)) mixed (by kernel_rfl) (Chg.refl _ wa).drew ?_
  iterate 2 (refine wpQs_quiet (v := ?_) (by simp only [opAt, List.getElem?_cons_zero, List.getElem?_cons_succ, Option.getD_some]; rfl) (by rfl) (by exact fun _ _ _ h => h) (by intro w1 hS; clear hS; go_simp; with_reducible rfl) ?_; (simp only [Act.put, List.setIfInBounds_toArray, List.set_cons_zero, List.set_cons_succ]))
  refine wpQs_nil ?_
  refine wpMany_mk wa (MadeF n) [(1, some 4), (3, some 6)] (MadeF.keep n) (by rfl) (Chg.refl NoF wa).drew ?_ ?_
  · intro r x w1 i hi hc0 hJ
    simp only [List.map_cons, List.map_nil, List.mem_cons, List.not_mem_nil, or_false] at hi
    rcases hi with rfl | rfl
    · refine loud_at (by simp only [opAt, List.getElem?_cons_zero, List.getElem?_cons_succ, Option.getD_some]; rfl) (by rfl) (fun K hK => ?_)
      refine wp_make (P := Tryd.prog) 29 _ _ rfl 3 (.int .i64 0) 1 8 infoInt Tryd.underlying29 .i64 .i64 n (by rfl) (by rfl) (by omega) (by omega) ?_
      intro g w2 hg own hc hlt
      subst hg
      rw [zeros_ints] at own
      exact hK _ _ (fun _ => hc0.trans hc) (hJ _ _ w2 (by rfl) hc ⟨rfl, own⟩ hlt)
    · refine loud_at (by simp only [opAt, List.getElem?_cons_zero, List.getElem?_cons_succ, Option.getD_some]; rfl) (by rfl) (fun K hK => ?_)
      refine wp_make (P := Tryd.prog) 22 _ _ rfl 29 (.slice none 0 0) 1 24 infoSl Tryd.underlying22 .i64 .i64 n (by rfl) (by rfl) (by omega) (by omega) ?_
      intro g w2 hg own hc hlt
      subst hg
      rw [zeros_slices] at own
      exact hK _ _ (fun _ => hc0.trans hc) (hJ _ _ w2 (by rfl) hc ⟨rfl, own⟩ hlt)
  · intro x g w1 hc0 hF hd
    obtain ⟨⟨v1, o1⟩, lo1, hi1⟩ := hF 1 (by simp)
    obtain ⟨⟨v3, o3⟩, lo3, hi3⟩ := hF 3 (by simp)
    rw [if_pos rfl] at o1
    rw [if_neg (by omega)] at o3
    simp only [List.foldl_cons, List.foldl_nil, Act.put, List.setIfInBounds_toArray, List.set_cons_zero, List.set_cons_succ]
    generalize x 1 = u1 at *
    generalize x 3 = u3 at *
    generalize g 1 = g1 at *
    generalize g 3 = g3 at *
    subst v1
    subst v3
    have hB1 : Blk w1 w.heap.size [.slice none 0 0, .slice none 0 0, .slice none 0 0, .slice none 0 0] := HB0.out.keep hc0 (fun h => h)
    refine wpPl_quiet (v := ?_) (by simp only [opAt, List.getElem?_cons_zero, List.getElem?_cons_succ, Option.getD_some]; rfl) (by rfl) (by exact fun _ _ _ h => h) (by intro w1 hS; clear hS; go_simp; with_reducible rfl) ?_; (simp only [Act.put, List.setIfInBounds_toArray, List.set_cons_zero, List.set_cons_succ])
    refine wpPl_l (by simp only [opAt, List.getElem?_cons_zero, List.getElem?_cons_succ, Option.getD_some]; rfl) (by rfl) (fun K hK => ?_)
    refine wp_storeT aggSkeen _ _ rfl w.heap.size [.slice (some ⟨g1, 0, none⟩) n n, .slice none 0 0, .slice none 0 0, .slice (some ⟨g3, 0, none⟩) n n] [.slice none 0 0, .slice none 0 0, .slice none 0 0, .slice none 0 0] (by rfl) (by rfl) rfl hB1 rfl rfl ?_
    intro wz hBz hcz
    refine hK _ _ (fun h => absurd rfl h) ?_
    clear hK
    (try simp only [Act.put, List.setIfInBounds_toArray, List.set_cons_zero, List.set_cons_succ])
    refine wpPl_nil ?_
    have hcw : Chg NoF w wz := (HC0.out.trans hc0).trans2 hcz (fun i _ hi => .inr (by have hi : i = w.heap.size := hi; omega))
    have hsa := HSA.out
    have hr : RdS (More S w) wz [.slice (some ⟨g1, 0, none⟩) n n, .slice none 0 0, .slice none 0 0, .slice (some ⟨g3, 0, none⟩) n n] (sf (SNet.init n)) := by
      have o1z := hcz.row o1 (fun b hb e => by obtain rfl : g1 = b := (by simpa [Value.ownBlock] using hb); have e : g1 = w.heap.size := e; omega)
      have o3z := hcz.row o3 (fun b hb e => by obtain rfl : g3 = b := (by simpa [Value.ownBlock] using hb); have e : g3 = w.heap.size := e; omega)
      refine ⟨?_, Rd2.nil _ _, Rd.nil _ _, ?_, trivial⟩
      · have e : (line n fun _ => (0 : Int)).map (Value.int .i64) = (List.range n).map fun _ => Value.int .i64 0 := by unfold line; rw [List.map_map]; rfl
        rw [← e] at o1z
        exact Rd.ofOwns (n := n) o1z (fun b hb => by
          obtain rfl : g1 = b := by simpa [Value.ownBlock] using hb
          exact .inr (by omega))
      · exact Rd2.ofOwns (n := n) o3z (by rw [SNet.gL_len]; rfl) (fun b hb => by
          obtain rfl : g3 = b := by simpa [Value.ownBlock] using hb
          exact .inr (by omega)) (fun j hj => by
          rw [SNet.gL_len] at hj
          have hj : j < n := hj
          have e1 : (SNet.init n).gL.getD j [] = [] := SNet.gL_at _ hj
          rw [e1]
          exact ⟨.slice none 0 0, by simp [hj], Rd.nil _ _, by simp⟩)
    go_wp2_with fail
    (try simp only [Exit.inBlock, Exit.then]); refine bodyPost_ret (results_cell1 aggSkeen rfl _ _ _ _ (by rfl) hBz rfl) rfl ?_
    exact ⟨_, rfl, _, rfl, hr, hcw⟩

end Go.Proofs.YtbindapfjghnaaaDoor
