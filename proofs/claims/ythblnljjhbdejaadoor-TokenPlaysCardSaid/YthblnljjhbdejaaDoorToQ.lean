/-
  The document's answers about the lock whose token goes from one to the next: how one is made.
  Conditions: at most four nodes.
-/
import Derived.Test.YthblnljjhbdejaaDoorToR
import Derived.Test.YthblnljjhbdejaaDoorRegion4
namespace Go.Proofs.YthblnljjhbdejaaDoor
open Go Go.RowKit

theorem loud_at {P : Program} {Q : Exit → Act → World → Prop} {S : World → Prop} {L : Nat} {ops : Array Oper} {l : List Oper} {i : Nat} {oi : Oper} {K : Act → World → Prop} {a : Act} {w : World} (ho : opAt l i = oi) (hg : oi.guard = none)
    (h : ∀ K' : Act → World → Prop, (∀ a' w', (i ≠ L → S w') → K a' w' → K' a' w') → oi.wp P a w K' Q) : loud P ops Q S L i (opAt l i) K a w := by
  subst ho; exact loud_mk hg h

theorem zeros_slices (n : Nat) : (madeCells (Value.slice none 0 0).cells (n * 1)).toList = (List.range n).map fun _ => Value.slice none 0 0 := by
  rw [Nat.mul_one, List.map_const', List.length_range]; exact toList_madeCells_one _ _

/-- What the makes and the box leave. -/
def MadeF (n nn : Nat) (i : Nat) (v : Value) (g : Nat) (w : World) : Prop :=
  if i = 10 then v = .pointer (some ⟨g, 0, none⟩) ∧ Blk w g [.int .i64 0, .slice none 0 0, .slice none 0 0, .int .i64 0, .int .i64 0, .slice none 0 0, .slice none 0 0, .slice none 0 0]
  else if i = 8 then v = .slice (some ⟨g, 0, none⟩) nn nn ∧ w.ownsRow 0 29 1 v nn ((List.range nn).map fun _ => .slice none 0 0)
  else v = .slice (some ⟨g, 0, none⟩) n n ∧ w.ownsRow 0 3 1 v n ((List.range n).map fun _ => .int .i64 0)
theorem MadeF.keep (n nn i : Nat) (v : Value) (g : Nat) (w w' : World) (h : MadeF n nn i v g w) (hc : Chg NoF w w') : MadeF n nn i v g w' := by
  unfold MadeF at h ⊢
  by_cases e0 : i = 10
  · rw [if_pos e0] at h ⊢; exact ⟨h.1, h.2.keep hc (fun h => h)⟩
  · rw [if_neg e0] at h ⊢
    by_cases e : i = 8
    · rw [if_pos e] at h ⊢; exact ⟨h.1, hc.row h.2 (fun _ _ hf => hf)⟩
    · rw [if_neg e] at h ⊢; exact ⟨h.1, hc.row h.2 (fun _ _ hf => hf)⟩

theorem Rd.zeros {S : Nat → Prop} {w : World} {g n : Nat} (h : w.ownsRow 0 3 1 (.slice (some ⟨g, 0, none⟩) n n) n ((List.range n).map fun _ => .int .i64 0)) (hS : S g) : Rd S w (.slice (some ⟨g, 0, none⟩) n n) (line n fun _ => 0) := by
  have e : (line n fun _ => (0 : Int)).map (Value.int .i64) = (List.range n).map fun _ => Value.int .i64 0 := by unfold line; rw [List.map_map]; rfl
  rw [← e] at h
  exact Rd.ofOwns (n := n) h (fun b hb => by
    obtain rfl : g = b := by simpa [Value.ownBlock] using hb
    exact hS)

theorem token_made (S : Nat → Prop) {w wz : World} {n nn g2 g4 g8 X : Nat} (hnn : n * n = nn) (hc : Chg NoF w wz) (h2 : wz.ownsRow 0 3 1 (.slice (some ⟨g2, 0, none⟩) n n) n ((List.range n).map fun _ => .int .i64 0)) (h4 : wz.ownsRow 0 3 1 (.slice (some ⟨g4, 0, none⟩) n n) n ((List.range n).map fun _ => .int .i64 0))
    (h8 : wz.ownsRow 0 29 1 (.slice (some ⟨g8, 0, none⟩) nn nn) nn ((List.range nn).map fun _ => .slice none 0 0)) (hX : Blk wz X [.int .i64 (n : Int), .slice (some ⟨g2, 0, none⟩) n n, .slice none 0 0, .int .i64 0, .int .i64 (-1), .slice (some ⟨g4, 0, none⟩) n n, .slice none 0 0, .slice (some ⟨g8, 0, none⟩) nn nn]) (hR : Blk wz w.heap.size [.int .i64 0, .slice none 0 0, .slice none 0 0, .int .i64 0, .int .i64 0, .slice none 0 0, .slice none 0 0, .slice none 0 0]) (l0 : w.heap.size < X) (l2 : w.heap.size < g2) (l4 : w.heap.size < g4) (l8 : w.heap.size < g8) (n2 : g2 ≠ X) (n4 : g4 ≠ X) (n8 : g8 ≠ X) : Bx S w wz X w.heap.size [.int .i64 (n : Int), .slice (some ⟨g2, 0, none⟩) n n, .slice none 0 0, .int .i64 0, .int .i64 (-1), .slice (some ⟨g4, 0, none⟩) n n, .slice none 0 0, .slice (some ⟨g8, 0, none⟩) nn nn] [.int .i64 0, .slice none 0 0, .slice none 0 0, .int .i64 0, .int .i64 0, .slice none 0 0, .slice none 0 0, .slice none 0 0] [.i (n : Int), .l (line n fun _ => 0), .r [], .i 0, .i (-1), .l (line n fun _ => 0), .l [], .r (flat n fun _ _ => [])] where
  ref := ⟨hc, by omega, hX, hR⟩
  fld := by
    subst hnn
    refine ⟨rfl, Rd.zeros h2 (.inr ⟨by omega, n2, by omega⟩), Rd2.nil _ _, rfl, rfl, Rd.zeros h4 (.inr ⟨by omega, n4, by omega⟩), Rd.nil _ _, ?_, trivial⟩
    exact Rd2.ofOwns (n := n * n) h8 (by rw [flat_len]) (fun b hb => by
        obtain rfl : g8 = b := by simpa [Value.ownBlock] using hb
        exact .inr ⟨by omega, n8, by omega⟩) (fun j hj => by
        rw [flat_len] at hj
        have e1 : (flat n fun _ _ => ([] : List Int)).getD j [] = [] := by simp [flat, List.getD, hj]
        rw [e1]
        exact ⟨.slice none 0 0, by simp [hj], Rd.nil _ _, by simp⟩)

/-- While the rows are told, one after the other. -/
structure NewT (w1 w : World) (X n k : Nat) (pa : Option Addr) (pc : Nat) (us : List Value) : Prop where
  chg : Chg (fun b => b = X ∨ w1.heap.size ≤ b) w1 w
  blk : Blk w X us
  own : ∀ b, (Value.slice pa k pc).ownBlock = some b → w1.heap.size ≤ b
  rows : ∃ vs, w.ownsRow 0 29 1 (.slice pa k pc) k vs ∧ ∀ j, j < k → ∃ u, vs[j]? = some u ∧ Rd (fun b => w1.heap.size ≤ b ∧ b < w.heap.size ∧ (Value.slice pa k pc).ownBlock ≠ some b) w u (line n fun _ => 0)

theorem NewT.next {w1 wr w2 w4 : World} {X n k g g4 cap4 : Nat} {pa : Option Addr} {pc : Nat} {us vs : List Value} {e : TypeId} (h : NewT w1 wr X n k pa pc us) (hX : X < w1.heap.size) (hg : g = wr.heap.size)
    (hrows : ∀ j, j < k → ∃ u, vs[j]? = some u ∧ Rd (fun b => w1.heap.size ≤ b ∧ b < wr.heap.size ∧ (Value.slice pa k pc).ownBlock ≠ some b) wr u (line n fun _ => 0)) (hvl : vs.length = k)
    (hlt : ∀ b, (Value.slice pa k pc).ownBlock = some b → b < wr.heap.size)
    (hc2 : Chg NoF wr w2) (hg2 : g < w2.heap.size) (hown2 : w2.ownsRow 0 3 1 (.slice (some ⟨g, 0, none⟩) n n) n ((List.range n).map fun _ => .int .i64 0))
    (hown4 : w4.ownsRow 0 29 1 (.slice (some ⟨g4, 0, none⟩) (k + 1) cap4) (k + 1) (vs ++ [.slice (some ⟨g, 0, none⟩) n n]))
    (hc4 : Chg (fun b => (Value.slice pa k pc).ownBlock = some b) (w2.alloc (.cells #[.slice (some ⟨g, 0, none⟩) n n] e)) w4)
    (hat : ∀ b, (Value.slice (some ⟨g4, 0, none⟩) (k + 1) cap4).ownBlock = some b → (Value.slice pa k pc).ownBlock = some b ∨ (w2.alloc (.cells #[.slice (some ⟨g, 0, none⟩) n n] e)).heap.size ≤ b) :
    NewT w1 (w4.setCell ⟨X, 2, none⟩ (.slice (some ⟨g4, 0, none⟩) (k + 1) cap4)) X n (k + 1) (some ⟨g4, 0, none⟩) cap4 (us.set 2 (.slice (some ⟨g4, 0, none⟩) (k + 1) cap4)) := by
  have hs2 := hc2.size
  have hs3 : (w2.alloc (.cells #[.slice (some ⟨g, 0, none⟩) n n] e)).heap.size = w2.heap.size + 1 := by simp
  have hs4 := hc4.size
  have hs1 := h.chg.size
  have hown := h.own
  have hs5 : (w4.setCell ⟨X, 2, none⟩ (.slice (some ⟨g4, 0, none⟩) (k + 1) cap4)).heap.size = w4.heap.size := by simp [World.setCell]
  have hcA : Chg (fun b => (Value.slice pa k pc).ownBlock = some b) wr w4 := (((hc2.alloc _).ofNo)).trans hc4
  have hg4 : ∀ b, (Value.slice (some ⟨g4, 0, none⟩) (k + 1) cap4).ownBlock = some b → w1.heap.size ≤ b := fun b hb => by
    rcases hat b hb with h1 | h1
    · exact hown b h1
    · omega
  have hne : ∀ b, b < w2.heap.size → (Value.slice pa k pc).ownBlock ≠ some b → (Value.slice (some ⟨g4, 0, none⟩) (k + 1) cap4).ownBlock ≠ some b := fun b hb h1 h2 => by
    rcases hat b h2 with h3 | h3
    · exact h1 h3
    · omega
  refine ⟨(h.chg.trans (hcA.mono fun b _ hb => .inr (hown b hb))).setCell (.inl (.inl rfl)) _, ?_, hg4, vs ++ [.slice (some ⟨g, 0, none⟩) n n], ?_, fun j hj => ?_⟩
  · exact (h.blk.keep hcA (fun e => by have := hown X e; omega)).set 2 _
  · exact (setCell_chg w4 ⟨X, 2, none⟩ _).row hown4 (fun b hb e => by have := hg4 b hb; have e : b = X := e; omega)
  · by_cases hjk : j < k
    · obtain ⟨u, h1, h2⟩ := hrows j hjk
      refine ⟨u, by rw [List.getElem?_append_left (by omega)]; exact h1, ?_⟩
      have h3 := (h2.keep hcA (fun b hb e => hb.2.2 e)).keep (setCell_chg w4 ⟨X, 2, none⟩ (.slice (some ⟨g4, 0, none⟩) (k + 1) cap4)) (fun b hb e => by have e : b = X := e; have := hb.1; omega)
      exact h3.mono fun b _ hb => ⟨hb.1, by rw [hs5]; have := hb.2.1; omega, hne b (by have := hb.2.1; omega) hb.2.2⟩
    · have ej : j = k := by omega
      refine ⟨.slice (some ⟨g, 0, none⟩) n n, by rw [ej, List.getElem?_append_right (by omega), hvl, Nat.sub_self]; rfl, ?_⟩
      have hgv : (Value.slice pa k pc).ownBlock ≠ some g := fun e => by have := hlt g e; omega
      have h2 : Rd (fun b => b = g) w2 (.slice (some ⟨g, 0, none⟩) n n) (line n fun _ => 0) := Rd.zeros hown2 rfl
      have h3 := (h2.keep ((((Chg.refl (fun b => (Value.slice pa k pc).ownBlock = some b) w2).alloc _)).trans hc4) (fun b hb e => by have hb : b = g := hb; rw [hb] at e; exact hgv e)).keep (setCell_chg w4 ⟨X, 2, none⟩ (.slice (some ⟨g4, 0, none⟩) (k + 1) cap4)) (fun b hb e => by have e : b = X := e; have hb : b = g := hb; omega)
      exact h3.mono fun b _ hb => by
        have hb : b = g := hb
        subst hb
        exact ⟨by omega, by rw [hs5]; omega, hne b hg2 hgv⟩

set_option maxHeartbeats 8000000 in
set_option maxRecDepth 100000 in
theorem newToken_ref (S : Nat → Prop) (n : Nat) (h1 : 1 ≤ n) (h4 : n ≤ 4) (w : World) :
    Calls Tryd.prog 6 #[.int .i64 n] w fun e w' => ∃ v, e = .returned v ∧ AnsF S w (tf (TNet.init n)) v w' := by
  obtain ⟨nn, HNN⟩ : ∃ nn, Hid (n * n = nn) := ⟨_, Lib.hid rfl⟩
  have hnn : nn ≤ 16 := by rw [← HNN.out]; exact Nat.mul_le_mul h4 h4
  have hw1 : IntKind.i64.wrap ((n : Int) * (n : Int)) = (nn : Int) := by rw [← Int.natCast_mul, HNN.out]; exact IntWalk.i64_in _ (by omega)
  go_enter Tryd.func6, Tryd.ntmps6
  go_upto_region 1 with fail
  have HB0 : Hid (Blk (w.alloc (.cells #[.int .i64 0, .slice none 0 0, .slice none 0 0, .int .i64 0, .int .i64 0, .slice none 0 0, .slice none 0 0, .slice none 0 0] 31)) w.heap.size [.int .i64 0, .slice none 0 0, .slice none 0 0, .int .i64 0, .int .i64 0, .slice none 0 0, .slice none 0 0, .slice none 0 0]) := Lib.hid (Blk.alloc w [.int .i64 0, .slice none 0 0, .slice none 0 0, .int .i64 0, .int .i64 0, .slice none 0 0, .slice none 0 0, .slice none 0 0] 31)
  have HC0 : Hid (Chg NoF w (w.alloc (.cells #[.int .i64 0, .slice none 0 0, .slice none 0 0, .int .i64 0, .int .i64 0, .slice none 0 0, .slice none 0 0, .slice none 0 0] 31))) := Lib.hid ((Chg.refl NoF w).alloc _)
  generalize w.alloc _ = wa at *
  have HSA : Hid (w.heap.size < wa.heap.size) := Lib.hid HB0.out.lt
  go_cut [3] (fun x wx => ∃ X, x = .pointer (some ⟨X, 0, none⟩) ∧ ∃ g2 g4 g8, Hid (Bx S w wx X w.heap.size [.int .i64 (n : Int), .slice (some ⟨g2, 0, none⟩) n n, .slice none 0 0, .int .i64 0, .int .i64 (-1), .slice (some ⟨g4, 0, none⟩) n n, .slice none 0 0, .slice (some ⟨g8, 0, none⟩) nn nn] [.int .i64 0, .slice none 0 0, .slice none 0 0, .int .i64 0, .int .i64 0, .slice none 0 0, .slice none 0 0, .slice none 0 0] [.i (n : Int), .l (line n fun _ => 0), .r [], .i 0, .i (-1), .l (line n fun _ => 0), .l [], .r (flat n fun _ _ => [])]))
  case first =>
    refine wp_region_many2 (Chg NoF wa) 11 2 [0, 1, 3, 5, 6, 7] [2, 4, 8, 10] [([], .q 9 (.l 11 .nil)), ([10], .q 9 (.l 10 (.l 11 .nil)))] mixed (by kernel_rfl) (Chg.refl _ wa).drew ?_
    iterate 6 (refine wpQs_quiet (v := ?_) (by simp only [opAt, List.getElem?_cons_zero, List.getElem?_cons_succ, Option.getD_some]; rfl) (by rfl) (by exact fun _ _ _ h => h) (by intro w1 hS; clear hS; go_simp; with_reducible rfl) ?_; (simp only [Act.put, List.setIfInBounds_toArray, List.set_cons_zero, List.set_cons_succ]))
    refine wpQs_nil ?_
    refine wpMany_mk3 wa (MadeF n nn) [(2, 7), (4, 9), (8, 13), (10, 3)] (by decide) (by decide) (MadeF.keep n nn) (by rfl) (Chg.refl NoF wa).drew ?_ ?_
    · intro J x a1 w1 d hd ha1 hc0 hJ
      simp only [List.mem_cons, List.not_mem_nil, or_false] at hd
      simp only [putAll, List.foldl_cons, List.foldl_nil, Act.put, List.setIfInBounds_toArray, List.set_cons_zero, List.set_cons_succ] at ha1
      subst ha1
      rcases hd with rfl | rfl | rfl | rfl
      iterate 2 (
        · refine loud_at (by simp only [opAt, List.getElem?_cons_zero, List.getElem?_cons_succ, Option.getD_some]; rfl) (by rfl) (fun K hK => ?_)
          refine wp_make (P := Tryd.prog) 29 _ _ rfl 3 (.int .i64 0) 1 8 infoInt Tryd.underlying29 .i64 .i64 n (by rfl) (by rfl) (by omega) (by omega) ?_
          intro g w2 hg own hc hlt
          subst hg
          rw [zeros_ints] at own
          exact hK _ _ (fun _ => hc0.trans hc) (hJ _ w2 hc ⟨rfl, own⟩ hlt))
      · refine loud_at (by simp only [opAt, List.getElem?_cons_zero, List.getElem?_cons_succ, Option.getD_some]; rfl) (by rfl) (fun K hK => ?_)
        refine wp_make (P := Tryd.prog) 22 _ _ rfl 29 (.slice none 0 0) 1 24 infoSl Tryd.underlying22 .i64 .i64 nn (by rfl) (by rfl) (by omega) (by omega) ?_
        intro g w2 hg own hc hlt
        subst hg
        rw [zeros_slices] at own
        exact hK _ _ (fun _ => hc0.trans hc) (hJ _ w2 hc ⟨rfl, own⟩ hlt)
      · refine loud_at (by simp only [opAt, List.getElem?_cons_zero, List.getElem?_cons_succ, Option.getD_some]; rfl) (by rfl) (fun K hK => ?_)
        go_simp
        exact hK _ _ (fun _ => hc0.alloc _) (hJ _ _ ((Chg.refl NoF w1).alloc _) ⟨rfl, Blk.alloc w1 [.int .i64 0, .slice none 0 0, .slice none 0 0, .int .i64 0, .int .i64 0, .slice none 0 0, .slice none 0 0, .slice none 0 0] 31⟩ (by simp))
    · intro r p x g a1 w1 hst ha1 hc0 hF hd
      have hr : (r = [] ∧ p = .q 9 (.l 11 .nil)) ∨ (r = [10] ∧ p = .q 9 (.l 10 (.l 11 .nil))) := by
        unfold stopAt at hst
        simp only [List.find?_cons, List.find?_nil] at hst
        by_cases e1 : r = []
        · subst e1; left; exact ⟨rfl, by simpa using hst.symm⟩
        · have e1' : (([] : List Nat) == r) = false := by rw [beq_eq_false_iff_ne]; exact fun h => e1 h.symm
          rw [e1'] at hst
          by_cases e2 : r = [10]
          · subst e2; right; exact ⟨rfl, by simpa using hst.symm⟩
          · have e2' : (([10] : List Nat) == r) = false := by rw [beq_eq_false_iff_ne]; exact fun h => e2 h.symm
            rw [e2'] at hst
            simp at hst
      simp only [putAll, List.foldl_cons, List.foldl_nil, Act.put, List.setIfInBounds_toArray, List.set_cons_zero, List.set_cons_succ] at ha1
      subst ha1
      have hsa := HSA.out
      rcases hr with ⟨rfl, rfl⟩ | ⟨rfl, rfl⟩
      · have F2 := hF 2 (by simp) (by simp)
        have F4 := hF 4 (by simp) (by simp)
        have F8 := hF 8 (by simp) (by simp)
        have F10 := hF 10 (by simp) (by simp)
        have d2 := hd 2 (by simp) 10 (by simp) (by simp) (by simp) (by decide)
        have d4 := hd 4 (by simp) 10 (by simp) (by simp) (by simp) (by decide)
        have d8 := hd 8 (by simp) 10 (by simp) (by simp) (by simp) (by decide)
        unfold MadeF at F2 F4 F8 F10
        rw [if_neg (by omega), if_neg (by omega)] at F2 F4
        rw [if_neg (by omega), if_pos rfl] at F8
        rw [if_pos rfl] at F10
        clear hF hd
        generalize x 2 = u2 at *
        generalize g 2 = g2 at *
        obtain ⟨⟨rfl, O2⟩, L2, J2⟩ := F2
        generalize x 4 = u4 at *
        generalize g 4 = g4 at *
        obtain ⟨⟨rfl, O4⟩, L4, J4⟩ := F4
        generalize x 8 = u8 at *
        generalize g 8 = g8 at *
        obtain ⟨⟨rfl, O8⟩, L8, J8⟩ := F8
        generalize x 10 = u10 at *
        generalize g 10 = g10 at *
        obtain ⟨⟨rfl, O10⟩, L10, J10⟩ := F10
        refine wpPl_quiet (v := ?_) (by simp only [opAt, List.getElem?_cons_zero, List.getElem?_cons_succ, Option.getD_some]; rfl) (by rfl) (by exact fun _ _ _ h => h) (by intro w1 hS; clear hS; go_simp; with_reducible rfl) ?_; (simp only [Act.put, List.setIfInBounds_toArray, List.set_cons_zero, List.set_cons_succ])
        refine wpPl_l (by simp only [opAt, List.getElem?_cons_zero, List.getElem?_cons_succ, Option.getD_some]; rfl) (by rfl) (fun K hK => ?_)
        refine wp_storeT aggToken _ _ rfl g10 [.int .i64 (n : Int), .slice (some ⟨g2, 0, none⟩) n n, .slice none 0 0, .int .i64 0, .int .i64 (-1), .slice (some ⟨g4, 0, none⟩) n n, .slice none 0 0, .slice (some ⟨g8, 0, none⟩) nn nn] [.int .i64 0, .slice none 0 0, .slice none 0 0, .int .i64 0, .int .i64 0, .slice none 0 0, .slice none 0 0, .slice none 0 0] (by rfl) (by rfl) rfl O10 rfl rfl ?_
        intro wz hBz hcz
        refine hK _ _ (fun h => absurd rfl h) ?_
        clear hK
        (try simp only [Act.put, List.setIfInBounds_toArray, List.set_cons_zero, List.set_cons_succ])
        refine wpPl_nil ?_
        have hcw : Chg NoF w wz := (HC0.out.trans hc0).trans2 hcz (fun i _ hi => .inr (by have hi : i = g10 := hi; omega))
        have hkeep : ∀ {g k : Nat} {e : TypeId} {xs : List Value}, g ≠ g10 → w1.ownsRow 0 e 1 (.slice (some ⟨g, 0, none⟩) k k) k xs → wz.ownsRow 0 e 1 (.slice (some ⟨g, 0, none⟩) k k) k xs := fun {g k e xs} hg h => hcz.row h (fun b hb e => by obtain rfl : g = b := (by simpa [Value.ownBlock] using hb); exact hg e)
        have hmade : Bx S w wz g10 w.heap.size [.int .i64 (n : Int), .slice (some ⟨g2, 0, none⟩) n n, .slice none 0 0, .int .i64 0, .int .i64 (-1), .slice (some ⟨g4, 0, none⟩) n n, .slice none 0 0, .slice (some ⟨g8, 0, none⟩) nn nn] [.int .i64 0, .slice none 0 0, .slice none 0 0, .int .i64 0, .int .i64 0, .slice none 0 0, .slice none 0 0, .slice none 0 0] [.i (n : Int), .l (line n fun _ => 0), .r [], .i 0, .i (-1), .l (line n fun _ => 0), .l [], .r (flat n fun _ _ => [])] := token_made S HNN.out hcw (hkeep (by omega) O2) (hkeep (by omega) O4) (hkeep (by omega) O8) hBz ((HB0.out.keep hc0 (fun h => h)).keep hcz (fun e => by have e : w.heap.size = g10 := e; omega)) (by omega) (by omega) (by omega) (by omega) (by omega) (by omega) (by omega)
        have HM := Lib.hid hmade
        clear hmade hBz hcz hkeep hcw O2 O4 O8 O10 d2 d4 d8
        go_wp2_with fail
        go_meet
        case rel => exact ⟨g10, rfl, g2, g4, g8, HM⟩
      · have F2 := hF 2 (by simp) (by simp)
        have F4 := hF 4 (by simp) (by simp)
        have F8 := hF 8 (by simp) (by simp)
        unfold MadeF at F2 F4 F8
        rw [if_neg (by omega), if_neg (by omega)] at F2 F4
        rw [if_neg (by omega), if_pos rfl] at F8
        clear hF hd
        generalize x 2 = u2 at *
        generalize g 2 = g2 at *
        obtain ⟨⟨rfl, O2⟩, L2, J2⟩ := F2
        generalize x 4 = u4 at *
        generalize g 4 = g4 at *
        obtain ⟨⟨rfl, O4⟩, L4, J4⟩ := F4
        generalize x 8 = u8 at *
        generalize g 8 = g8 at *
        obtain ⟨⟨rfl, O8⟩, L8, J8⟩ := F8
        refine wpPl_quiet (v := ?_) (by simp only [opAt, List.getElem?_cons_zero, List.getElem?_cons_succ, Option.getD_some]; rfl) (by rfl) (by exact fun _ _ _ h => h) (by intro w1 hS; clear hS; go_simp; with_reducible rfl) ?_; (simp only [Act.put, List.setIfInBounds_toArray, List.set_cons_zero, List.set_cons_succ])
        refine wpPl_l (by simp only [opAt, List.getElem?_cons_zero, List.getElem?_cons_succ, Option.getD_some]; rfl) (by rfl) (fun K hK => ?_)
        go_simp
        have hbl : Blk (w1.alloc (.cells #[.int .i64 0, .slice none 0 0, .slice none 0 0, .int .i64 0, .int .i64 0, .slice none 0 0, .slice none 0 0, .slice none 0 0] 31)) w1.heap.size [.int .i64 0, .slice none 0 0, .slice none 0 0, .int .i64 0, .int .i64 0, .slice none 0 0, .slice none 0 0, .slice none 0 0] := Blk.alloc w1 [.int .i64 0, .slice none 0 0, .slice none 0 0, .int .i64 0, .int .i64 0, .slice none 0 0, .slice none 0 0, .slice none 0 0] 31
        have hca : Chg NoF w1 (w1.alloc (.cells #[.int .i64 0, .slice none 0 0, .slice none 0 0, .int .i64 0, .int .i64 0, .slice none 0 0, .slice none 0 0, .slice none 0 0] 31)) := (Chg.refl NoF w1).alloc _
        refine hK _ _ (fun _ => hc0.trans hca) ?_
        clear hK
        (try simp only [Act.put, List.setIfInBounds_toArray, List.set_cons_zero, List.set_cons_succ])
        refine wpPl_l (by simp only [opAt, List.getElem?_cons_zero, List.getElem?_cons_succ, Option.getD_some]; rfl) (by rfl) (fun K hK => ?_)
        obtain ⟨X, hXe⟩ : ∃ X, X = w1.heap.size := ⟨_, rfl⟩
        rw [← hXe] at hbl ⊢
        replace O2 := hca.row O2 (fun _ _ hf => hf)
        replace O4 := hca.row O4 (fun _ _ hf => hf)
        replace O8 := hca.row O8 (fun _ _ hf => hf)
        replace hc0 := hc0.trans hca
        clear hca
        generalize w1.alloc _ = w9 at *
        refine wp_storeT aggToken _ _ rfl X [.int .i64 (n : Int), .slice (some ⟨g2, 0, none⟩) n n, .slice none 0 0, .int .i64 0, .int .i64 (-1), .slice (some ⟨g4, 0, none⟩) n n, .slice none 0 0, .slice (some ⟨g8, 0, none⟩) nn nn] [.int .i64 0, .slice none 0 0, .slice none 0 0, .int .i64 0, .int .i64 0, .slice none 0 0, .slice none 0 0, .slice none 0 0] (by rfl) (by rfl) rfl hbl rfl rfl ?_
        intro wz hBz hcz
        refine hK _ _ (fun h => absurd rfl h) ?_
        clear hK
        (try simp only [Act.put, List.setIfInBounds_toArray, List.set_cons_zero, List.set_cons_succ])
        refine wpPl_nil ?_
        have hcw : Chg NoF w wz := (HC0.out.trans hc0).trans2 hcz (fun i _ hi => .inr (by have hi : i = X := hi; omega))
        have hkeep : ∀ {g k : Nat} {e : TypeId} {xs : List Value}, g ≠ X → w9.ownsRow 0 e 1 (.slice (some ⟨g, 0, none⟩) k k) k xs → wz.ownsRow 0 e 1 (.slice (some ⟨g, 0, none⟩) k k) k xs := fun {g k e xs} hg h => hcz.row h (fun b hb e => by obtain rfl : g = b := (by simpa [Value.ownBlock] using hb); exact hg e)
        have hmade : Bx S w wz X w.heap.size [.int .i64 (n : Int), .slice (some ⟨g2, 0, none⟩) n n, .slice none 0 0, .int .i64 0, .int .i64 (-1), .slice (some ⟨g4, 0, none⟩) n n, .slice none 0 0, .slice (some ⟨g8, 0, none⟩) nn nn] [.int .i64 0, .slice none 0 0, .slice none 0 0, .int .i64 0, .int .i64 0, .slice none 0 0, .slice none 0 0, .slice none 0 0] [.i (n : Int), .l (line n fun _ => 0), .r [], .i 0, .i (-1), .l (line n fun _ => 0), .l [], .r (flat n fun _ _ => [])] := token_made S HNN.out hcw (hkeep (by omega) O2) (hkeep (by omega) O4) (hkeep (by omega) O8) hBz ((HB0.out.keep hc0 (fun h => h)).keep hcz (fun e => by have e : w.heap.size = X := e; omega)) (by omega) (by omega) (by omega) (by omega) (by omega) (by omega) (by omega)
        have HM := Lib.hid hmade
        clear hmade hBz hcz hkeep hcw O2 O4 O8 hbl
        go_wp2_with fail
        go_meet
        case rel => exact ⟨X, by rw [hXe], g2, g4, g8, HM⟩
  case rest =>
  obtain ⟨X, rfl, g2, g4, g8, HB⟩ := hcut
  clear HB0 HC0 HSA hw1
  have HXL : Hid (X < wc.heap.size) := Lib.hid HB.out.ref.bB.lt
  go_wp2_with fail
  go_loopw [4] (fun i wr => ∃ k : Nat, k ≤ n ∧ i = .int .i64 k ∧ ∃ pa pc, Hid (NewT wc wr X n k pa pc [.int .i64 (n : Int), .slice (some ⟨g2, 0, none⟩) n n, .slice pa k pc, .int .i64 0, .int .i64 (-1), .slice (some ⟨g4, 0, none⟩) n n, .slice none 0 0, .slice (some ⟨g8, 0, none⟩) nn nn])) (fun i _ => n - (intOf i).toNat)
  case atStart => exact ⟨0, Nat.zero_le _, rfl, none, 0, Lib.hid ⟨Chg.refl _ _, HB.out.ref.bB, fun b hb => by simp [Value.ownBlock] at hb, [], World.ownsRow_nil _ _ _ _, fun j hj => absurd hj (Nat.not_lt_zero _)⟩⟩
  case round =>
    obtain ⟨k, hkn, rfl, pa, pc, HW⟩ := hrel
    by_cases hlt : k < n
    · have hk1 : (k : Int) < n := by omega
      have HKN : Hid (k + 1 ≤ n) := Lib.hid hlt
      have q2 : wr.cell? ⟨X, 2, none⟩ = some (.slice pa k pc) := HW.out.blk.cell 2
      obtain ⟨vs, hvs, hrows⟩ := HW.out.rows
      have HROWS := Lib.hid hrows
      have HVS := Lib.hid hvs
      have HNX : Hid (¬ wc.heap.size ≤ X) := Lib.hid (by have := HXL.out; omega)
      clear hrows hvs hkn
      go_wp2_with fail
      refine wp_region_plan (Chg (fun b => wc.heap.size ≤ b) wr) 7 [(0,true),(1,true),(2,true),(3,false),(4,false),(5,false),(6,true),(7,false)] mixed (by kernel_rfl) (Chg.refl _ _).drew ?_
      simp only [planOps, List.map_cons, List.map_nil, List.getElem?_cons_zero, List.getElem?_cons_succ, Option.getD_some]
      generalize hops : List.toArray _ = ops
      iterate 3 (refine wpPlan_quiet (v := ?_) rfl (fun _ _ _ h => h) (by intro w1 hS; have s0 := hS.cell_some q2 HNX.out; clear hS; go_simp; with_reducible rfl) ?_; (simp only [Act.put, List.setIfInBounds_toArray, List.set_cons_zero, List.set_cons_succ]))
      refine wpPlan_loud rfl (fun K hK => ?_)
      refine wp_make (P := Tryd.prog) 29 _ _ rfl 3 (.int .i64 0) 1 8 infoInt Tryd.underlying29 .i64 .i64 n (by rfl) (by rfl) (by omega) (by omega) ?_
      intro g w2 hg0 own2 hc2 hg2
      have HGE := Lib.hid hg0
      clear hg0
      rw [zeros_ints] at own2
      have hcr : Chg NoF wr w2 := ((Chg.refl NoF wr).drew).trans hc2
      have hsr := hcr.size
      refine hK _ _ (fun _ => hcr.ofNo) ?_
      clear hK K
      (try simp only [Act.put, List.setIfInBounds_toArray, List.set_cons_zero, List.set_cons_succ])
      refine wpPlan_loud rfl (fun K hK => ?_)
      go_simp
      refine hK _ _ (fun _ => (hcr.alloc _).ofNo) ?_
      clear hK K
      (try simp only [Act.put, List.setIfInBounds_toArray, List.set_cons_zero, List.set_cons_succ])
      refine wpPlan_loud rfl (fun K hK => ?_)
      refine wp_app _ _ 22 rfl 29 (.slice none 0 0) 1 24 infoSl Tryd.underlying22 rfl (by decide) (.slice pa k pc) k vs (by rfl) ((hcr.alloc _).row HVS.out (fun _ _ hf => hf)) w2.heap.size 1 [.slice (some ⟨g, 0, none⟩) n n] (by rfl) ⟨29, (0, 0), heap_alloc_new w2 _⟩ rfl (by simp [Value.oneCell']) (by omega) (by omega) ?_
      intro g4' cap4 w4 hown4 hc4 hat4 hlt4
      have HNEXT := Lib.hid (NewT.next HW.out HXL.out (by rw [HGE.out]; rfl) HROWS.out (by have := HVS.out.1; omega) (fun b hb => (HVS.out.lt b hb).2) hcr hg2 own2 hown4 hc4 hat4)
      have hc5 : Chg (fun b => wc.heap.size ≤ b) wr w4 := ((hcr.alloc _).ofNo).trans (hc4.mono fun b _ hb => HW.out.own b hb)
      refine hK _ _ (fun _ => hc5) ?_
      clear hK K
      (try simp only [Act.put, List.setIfInBounds_toArray, List.set_cons_zero, List.set_cons_succ])
      (refine wpPlan_quiet (v := ?_) rfl (fun _ _ _ h => h) (by intro w1 hS; clear hS; go_simp; with_reducible rfl) ?_; (simp only [Act.put, List.setIfInBounds_toArray, List.set_cons_zero, List.set_cons_succ]))
      refine wpPlan_loud rfl (fun K hK => ?_)
      have s2 := hc5.cell_some q2 HNX.out
      have f2 : w4.frozen? ⟨X, 2, none⟩ = false := (HW.out.blk.keep hc5 HNX.out).frozen 2
      go_simp
      refine hK _ _ (fun h => absurd rfl h) ?_
      clear hK K
      clear hops
      refine wpPlan_nil ?_
      have HW2 : Hid (NewT wc (w4.setCell ⟨X, 2, none⟩ (.slice (some ⟨g4', 0, none⟩) (k + 1) cap4)) X n (k + 1) (some ⟨g4', 0, none⟩) cap4 [.int .i64 (n : Int), .slice (some ⟨g2, 0, none⟩) n n, .slice (some ⟨g4', 0, none⟩) (k + 1) cap4, .int .i64 0, .int .i64 (-1), .slice (some ⟨g4, 0, none⟩) n n, .slice none 0 0, .slice (some ⟨g8, 0, none⟩) nn nn]) := Lib.hid HNEXT.out
      clear HNEXT hc5 s2 f2 q2 hown4 hc4 hat4 hlt4 own2 hc2 hg2 hcr hsr
      generalize w4.setCell _ _ = w5 at *
      go_wp2
      go_roundw
      case rel => exact ⟨k + 1, HKN.out, by go_num, _, _, HW2⟩
      case measure => have := HKN.out; simp [intOf]; omega
    · have hk1 : ¬ (k : Int) < n := by omega
      obtain rfl : n = k := by omega
      have HB3 : Hid (Bx S w wr X w.heap.size [.int .i64 (n : Int), .slice (some ⟨g2, 0, none⟩) n n, .slice pa n pc, .int .i64 0, .int .i64 (-1), .slice (some ⟨g4, 0, none⟩) n n, .slice none 0 0, .slice (some ⟨g8, 0, none⟩) nn nn] [.int .i64 0, .slice none 0 0, .slice none 0 0, .int .i64 0, .int .i64 0, .slice none 0 0, .slice none 0 0, .slice none 0 0] (tf (TNet.init n))) := Lib.hid (by
        have hlo := HB.out.ref.lo
        have hRl := HB.out.ref.bR.lt
        have hXl := HXL.out
        obtain ⟨_, f1, _, _, _, f5, _, f7, _⟩ := HB.out.fld
        have hk : ∀ b, (In S w X w.heap.size b ∧ b < wc.heap.size) → ¬ (b = X ∨ wc.heap.size ≤ b) := fun b hb e => by
          have := HB.out.notB b hb.1
          omega
        have keep : ∀ {v : Value} {f : Fd}, RdF (In S w X w.heap.size) wc v f → RdF (In S w X w.heap.size) wr v f := fun {v f} hf => ((RdF.mono (S' := fun b => In S w X w.heap.size b ∧ b < wc.heap.size) hf (fun b hb h => ⟨h, hb⟩)).keep HW.out.chg hk).mono (fun b _ h => h.1)
        refine ⟨⟨HB.out.ref.chg.trans2 HW.out.chg (fun i hi h => by omega), hlo, HW.out.blk, HB.out.ref.bR.keep HW.out.chg (fun e => by omega)⟩, rfl, keep f1, ?_, rfl, rfl, keep f5, Rd.nil _ _, keep f7, trivial⟩
        obtain ⟨vs, hvs, hrows⟩ := HW.out.rows
        exact Rd2.ofOwns (n := n) hvs (by rw [TNet.hadL_len]; rfl) (fun b hb => .inr (by have := HW.out.own b hb; omega)) (fun j hj => by
          rw [TNet.hadL_len] at hj
          obtain ⟨u, h1, h2⟩ := hrows j hj
          rw [TNet.hadL_at _ hj]
          exact ⟨u, h1, h2.mono fun b _ hb => .inr (by have := hb.1; omega), by rw [line_len]; show n ≤ _; omega⟩))
      clear hlt HW HB hkn
      go_wp2_with (first | (refine wpList_plain rfl (fun K hK => wp_loadT aggToken _ rfl X [.int .i64 (n : Int), .slice (some ⟨g2, 0, none⟩) n n, .slice pa n pc, .int .i64 0, .int .i64 (-1), .slice (some ⟨g4, 0, none⟩) n n, .slice none 0 0, .slice (some ⟨g8, 0, none⟩) nn nn] (by rfl) HB3.out.ref.bB rfl ?_); refine hK _ _ ?_; clear hK) | (refine wpList_plain rfl (fun K hK => wp_storeT aggToken _ _ rfl w.heap.size [.int .i64 (n : Int), .slice (some ⟨g2, 0, none⟩) n n, .slice pa n pc, .int .i64 0, .int .i64 (-1), .slice (some ⟨g4, 0, none⟩) n n, .slice none 0 0, .slice (some ⟨g8, 0, none⟩) nn nn] _ (by rfl) (by rfl) rfl HB3.out.ref.bR rfl rfl ?_); intro wz hBz hcz; have HB7 := Lib.hid (HB3.out.setR hBz hcz); clear hBz hcz; refine hK _ _ ?_; clear hK))
      (try simp only [Exit.inBlock, Exit.then]); refine bodyPost_ret (results_cell1 aggToken rfl _ _ _ _ (by rfl) HB7.out.ref.bR rfl) rfl ?_
      exact ⟨_, rfl, HB7.out.ans⟩

end Go.Proofs.YthblnljjhbdejaaDoor
