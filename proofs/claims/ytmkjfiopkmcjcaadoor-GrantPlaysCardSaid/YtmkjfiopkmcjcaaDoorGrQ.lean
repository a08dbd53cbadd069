/-
  The document's answers about the lock for which one asks all others: how one is made.
  Conditions: at most four nodes.
-/
import Derived.Test.YtmkjfiopkmcjcaaDoorGrR
import Derived.Test.YtmkjfiopkmcjcaaDoorRegion3
namespace Go.Proofs.YtmkjfiopkmcjcaaDoor
open Go Go.RowKit

theorem loud_at {P : Program} {Q : Exit → Act → World → Prop} {S : World → Prop} {L : Nat} {ops : Array Oper} {l : List Oper} {i : Nat} {oi : Oper} {K : Act → World → Prop} {a : Act} {w : World} (ho : opAt l i = oi) (hg : oi.guard = none)
    (h : ∀ K' : Act → World → Prop, (∀ a' w', (i ≠ L → S w') → K a' w' → K' a' w') → oi.wp P a w K' Q) : loud P ops Q S L i (opAt l i) K a w := by
  subst ho; exact loud_mk hg h

theorem zeros_ints (n : Nat) : (madeCells (Value.int .i64 0).cells (n * 1)).toList = (List.range n).map fun _ => Value.int .i64 0 := by
  rw [Nat.mul_one, List.map_const', List.length_range]; exact toList_madeCells_one _ _
theorem zeros_slices (n : Nat) : (madeCells (Value.slice none 0 0).cells (n * 1)).toList = (List.range n).map fun _ => Value.slice none 0 0 := by
  rw [Nat.mul_one, List.map_const', List.length_range]; exact toList_madeCells_one _ _
theorem infoInts : (Tryd.prog.info? 29).map (fun i => (i.zero, i.size, i.bytes)) = some (some (.slice none 0 0), 1, 24) := by kernel_rfl

/-- What the makes leave. -/
def MadeF (n nn : Nat) (i : Nat) (v : Value) (g : Nat) (w : World) : Prop :=
  if i = 14 then v = .slice (some ⟨g, 0, none⟩) nn nn ∧ w.ownsRow 0 29 1 v nn ((List.range nn).map fun _ => .slice none 0 0) else v = .slice (some ⟨g, 0, none⟩) n n ∧ w.ownsRow 0 3 1 v n ((List.range n).map fun _ => .int .i64 0)
theorem MadeF.keep (n nn i : Nat) (v : Value) (g : Nat) (w w' : World) (h : MadeF n nn i v g w) (hc : Chg NoF w w') : MadeF n nn i v g w' := by
  unfold MadeF at h ⊢
  by_cases e : i = 14
  · rw [if_pos e] at h ⊢; exact ⟨h.1, hc.row h.2 (fun _ _ hf => hf)⟩
  · rw [if_neg e] at h ⊢; exact ⟨h.1, hc.row h.2 (fun _ _ hf => hf)⟩

theorem Rd.zeros {S : Nat → Prop} {w : World} {g n : Nat} (h : w.ownsRow 0 3 1 (.slice (some ⟨g, 0, none⟩) n n) n ((List.range n).map fun _ => .int .i64 0)) (hS : S g) : Rd S w (.slice (some ⟨g, 0, none⟩) n n) (line n fun _ => 0) := by
  have e : (line n fun _ => (0 : Int)).map (Value.int .i64) = (List.range n).map fun _ => Value.int .i64 0 := by unfold line; rw [List.map_map]; rfl
  rw [← e] at h
  exact Rd.ofOwns (n := n) h (fun b hb => by
    obtain rfl : g = b := by simpa [Value.ownBlock] using hb
    exact hS)

set_option maxHeartbeats 8000000 in
set_option maxRecDepth 100000 in
theorem newGrant_ref (S : Nat → Prop) (n : Nat) (h1 : 1 ≤ n) (h4 : n ≤ 4) (w : World) :
    Calls Tryd.prog 6 #[.int .i64 n] w fun e w' => ∃ v, e = .returned v ∧ AnsF S w (gf (GNet.init n)) v w' := by
  obtain ⟨nn, HNN⟩ : ∃ nn, Hid (n * n = nn) := ⟨_, Lib.hid rfl⟩
  have hnn : nn ≤ 16 := by rw [← HNN.out]; exact Nat.mul_le_mul h4 h4
  have hw1 : IntKind.i64.wrap ((n : Int) * (n : Int)) = (nn : Int) := by rw [← Int.natCast_mul, HNN.out]; exact IntWalk.i64_in _ (by omega)
  go_enter Tryd.func6, Tryd.ntmps6
  go_upto_region 1 with fail
  have HB0 : Hid (Blk (w.alloc (.cells #[.int .i64 0, .slice none 0 0, .slice none 0 0, .slice none 0 0, .slice none 0 0, .slice none 0 0, .slice none 0 0] 31)) w.heap.size [.int .i64 0, .slice none 0 0, .slice none 0 0, .slice none 0 0, .slice none 0 0, .slice none 0 0, .slice none 0 0]) := Lib.hid (Blk.alloc w [.int .i64 0, .slice none 0 0, .slice none 0 0, .slice none 0 0, .slice none 0 0, .slice none 0 0, .slice none 0 0] 31)
  have HC0 : Hid (Chg NoF w (w.alloc (.cells #[.int .i64 0, .slice none 0 0, .slice none 0 0, .slice none 0 0, .slice none 0 0, .slice none 0 0, .slice none 0 0] 31))) := Lib.hid ((Chg.refl NoF w).alloc _)
  generalize w.alloc _ = wa at *
  have HSA : Hid (w.heap.size < wa.heap.size) := Lib.hid HB0.out.lt
  refine wp_region_many (Chg NoF wa) 16 [0, 1, 3, 5, 7, 9, 11, 12, 13] [2, 4, 6, 8, 10, 14] (.q 15 (.l 16 .nil)) mixed (by kernel_rfl) (Chg.refl _ wa).drew ?_
  iterate 9 (refine wpQs_quiet (v := ?_) (by simp only [opAt, List.getElem?_cons_zero, List.getElem?_cons_succ, Option.getD_some]; rfl) (by rfl) (by exact fun _ _ _ h => h) (by intro w1 hS; clear hS; go_simp; with_reducible rfl) ?_; (simp only [Act.put, List.setIfInBounds_toArray, List.set_cons_zero, List.set_cons_succ]))
  refine wpQs_nil ?_
  refine wpMany_mk2 wa (MadeF n nn) [(2, 5), (4, 7), (6, 9), (8, 11), (10, 13), (14, 17)] (by decide) (by decide) (MadeF.keep n nn) (by rfl) (Chg.refl NoF wa).drew ?_ ?_
  · intro J x a1 w1 d hd ha1 hc0 hJ
    simp only [List.mem_cons, List.not_mem_nil, or_false] at hd
    simp only [putAll, List.foldl_cons, List.foldl_nil, Act.put, List.setIfInBounds_toArray, List.set_cons_zero, List.set_cons_succ] at ha1
    subst ha1
    rcases hd with rfl | rfl | rfl | rfl | rfl | rfl
    iterate 5 (
      · refine loud_at (by simp only [opAt, List.getElem?_cons_zero, List.getElem?_cons_succ, Option.getD_some]; rfl) (by rfl) (fun K hK => ?_)
        refine wp_make (P := Tryd.prog) 29 _ _ rfl 3 (.int .i64 0) 1 8 infoInt Tryd.underlying29 .i64 .i64 n (by rfl) (by rfl) (by omega) (by omega) ?_
        intro g w2 hg own hc hlt
        subst hg
        rw [zeros_ints] at own
        exact hK _ _ (fun _ => hc0.trans hc) (hJ _ w2 hc ⟨rfl, own⟩ hlt))
    · refine loud_at (by simp only [opAt, List.getElem?_cons_zero, List.getElem?_cons_succ, Option.getD_some]; rfl) (by rfl) (fun K hK => ?_)
      refine wp_make (P := Tryd.prog) 22 _ _ rfl 29 (.slice none 0 0) 1 24 infoInts Tryd.underlying22 .i64 .i64 nn (by rfl) (by rfl) (by omega) (by omega) ?_
      intro g w2 hg own hc hlt
      subst hg
      rw [zeros_slices] at own
      exact hK _ _ (fun _ => hc0.trans hc) (hJ _ w2 hc ⟨rfl, own⟩ hlt)
  · intro x g a1 w1 ha1 hc0 hF hd
    have F2 := hF 2 (by simp)
    have F4 := hF 4 (by simp)
    have F6 := hF 6 (by simp)
    have F8 := hF 8 (by simp)
    have F10 := hF 10 (by simp)
    have F14 := hF 14 (by simp)
    unfold MadeF at F2 F4 F6 F8 F10 F14
    rw [if_neg (by omega)] at F2 F4 F6 F8 F10
    rw [if_pos rfl] at F14
    clear hF hd
    simp only [putAll, List.foldl_cons, List.foldl_nil, Act.put, List.setIfInBounds_toArray, List.set_cons_zero, List.set_cons_succ] at ha1
    subst ha1
    generalize x 2 = u2 at *
    generalize g 2 = g2 at *
    obtain ⟨⟨rfl, O2⟩, L2, -⟩ := F2
    generalize x 4 = u4 at *
    generalize g 4 = g4 at *
    obtain ⟨⟨rfl, O4⟩, L4, -⟩ := F4
    generalize x 6 = u6 at *
    generalize g 6 = g6 at *
    obtain ⟨⟨rfl, O6⟩, L6, -⟩ := F6
    generalize x 8 = u8 at *
    generalize g 8 = g8 at *
    obtain ⟨⟨rfl, O8⟩, L8, -⟩ := F8
    generalize x 10 = u10 at *
    generalize g 10 = g10 at *
    obtain ⟨⟨rfl, O10⟩, L10, -⟩ := F10
    generalize x 14 = u14 at *
    generalize g 14 = g14 at *
    obtain ⟨⟨rfl, O14⟩, L14, -⟩ := F14
    have hB1 : Blk w1 w.heap.size [.int .i64 0, .slice none 0 0, .slice none 0 0, .slice none 0 0, .slice none 0 0, .slice none 0 0, .slice none 0 0] := HB0.out.keep hc0 (fun h => h)
    refine wpPl_quiet (v := ?_) (by simp only [opAt, List.getElem?_cons_zero, List.getElem?_cons_succ, Option.getD_some]; rfl) (by rfl) (by exact fun _ _ _ h => h) (by intro w1 hS; clear hS; go_simp; with_reducible rfl) ?_; (simp only [Act.put, List.setIfInBounds_toArray, List.set_cons_zero, List.set_cons_succ])
    refine wpPl_l (by simp only [opAt, List.getElem?_cons_zero, List.getElem?_cons_succ, Option.getD_some]; rfl) (by rfl) (fun K hK => ?_)
    refine wp_storeT aggGrant _ _ rfl w.heap.size [.int .i64 (n : Int), .slice (some ⟨g2, 0, none⟩) n n, .slice (some ⟨g4, 0, none⟩) n n, .slice (some ⟨g6, 0, none⟩) n n, .slice (some ⟨g8, 0, none⟩) n n, .slice (some ⟨g10, 0, none⟩) n n, .slice (some ⟨g14, 0, none⟩) nn nn] [.int .i64 0, .slice none 0 0, .slice none 0 0, .slice none 0 0, .slice none 0 0, .slice none 0 0, .slice none 0 0] (by rfl) (by rfl) rfl hB1 rfl rfl ?_
    intro wz hBz hcz
    refine hK _ _ (fun h => absurd rfl h) ?_
    clear hK
    (try simp only [Act.put, List.setIfInBounds_toArray, List.set_cons_zero, List.set_cons_succ])
    refine wpPl_nil ?_
    have hcw : Chg NoF w wz := (HC0.out.trans hc0).trans2 hcz (fun i _ hi => .inr (by have hi : i = w.heap.size := hi; omega))
    have hsa := HSA.out
    have hr : RdS (More S w) wz [.int .i64 (n : Int), .slice (some ⟨g2, 0, none⟩) n n, .slice (some ⟨g4, 0, none⟩) n n, .slice (some ⟨g6, 0, none⟩) n n, .slice (some ⟨g8, 0, none⟩) n n, .slice (some ⟨g10, 0, none⟩) n n, .slice (some ⟨g14, 0, none⟩) nn nn] (gf (GNet.init n)) := by
      have hkeep : ∀ {g k : Nat} {e : TypeId} {xs : List Value}, wa.heap.size ≤ g → w1.ownsRow 0 e 1 (.slice (some ⟨g, 0, none⟩) k k) k xs → wz.ownsRow 0 e 1 (.slice (some ⟨g, 0, none⟩) k k) k xs := fun {g k e xs} hg h => hcz.row h (fun b hb e => by obtain rfl : g = b := (by simpa [Value.ownBlock] using hb); have e : g = w.heap.size := e; omega)
      refine ⟨rfl, Rd.zeros (hkeep L2 O2) (.inr (by omega)), Rd.zeros (hkeep L4 O4) (.inr (by omega)), Rd.zeros (hkeep L6 O6) (.inr (by omega)), Rd.zeros (hkeep L8 O8) (.inr (by omega)), Rd.zeros (hkeep L10 O10) (.inr (by omega)), ?_, trivial⟩
      have o3 := hkeep L14 O14
      have hNN := HNN.out
      subst hNN
      exact Rd2.ofOwns (n := n * n) o3 (by show (flat n fun _ _ => ([] : List Int)).length = _; rw [flat_len]) (fun b hb => by
          obtain rfl : g14 = b := by simpa [Value.ownBlock] using hb
          exact .inr (by omega)) (fun j hj => by
          have hj : j < n * n := by have h := hj; rw [show (GNet.init n).n = n from rfl, flat_len] at h; exact h
          have e1 : (flat n fun _ _ => ([] : List Int)).getD j [] = [] := by simp [flat, List.getD, hj]
          show ∃ u, _ ∧ Rd _ _ u ((flat n fun _ _ => ([] : List Int)).getD j []) ∧ _
          rw [e1]
          exact ⟨.slice none 0 0, by simp [hj], Rd.nil _ _, by show (List.getD (flat n fun _ _ => ([] : List Int)) j []).length ≤ _; rw [e1]; simp⟩)
    go_wp2_with fail
    (try simp only [Exit.inBlock, Exit.then]); refine bodyPost_ret (results_cell1 aggGrant rfl _ _ _ _ (by rfl) hBz rfl) rfl ?_
    exact ⟨_, rfl, _, rfl, hr, hcw⟩

end Go.Proofs.YtmkjfiopkmcjcaaDoor
