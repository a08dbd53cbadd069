/-
  The lock for which one asks all others: a new one; what is told of it; a closed fact.
  Conditions: none beyond those of each theorem.
-/
import Derived.Test.YtmkjfiopkmcjcaaDoorGrE
namespace Go.Proofs.YtmkjfiopkmcjcaaDoor
open Go Go.RowKit

/-- Slices that are nil need no block. -/
theorem Mem.nils {ι : Type} [DecidableEq ι] {S : Nat → Prop} {w : World} {t : Nat} {top : List Value} {R : ι → Sl} {tag : Nat → Option (Option ι)} (h : Mem S w t top R tag) (R' : ι → Sl) (hR : ∀ i, R' i = R i ∨ ((R' i).v = .slice none 0 0 ∧ (R' i).n = 0 ∧ (R' i).xs = [])) : Mem S w t top R' tag where
  hS := h.hS
  ht := h.ht
  blk := h.blk
  row := fun i => by
    rcases hR i with e | ⟨e1, e2, e3⟩
    · rw [e]; exact h.row i
    · rw [e1, e2, e3]; exact World.ownsRow_nil _ _ _ _
  tg := fun i b hb => by
    rcases hR i with e | ⟨e1, e2, e3⟩
    · rw [e] at hb; exact h.tg i b hb
    · rw [e1] at hb; cases hb

def nilV : Ix → Value := fun _ => .slice none 0 0

theorem zeros_cells (m : Nat) : (madeCells #[.int .i64 0, .int .i64 0, .int .i64 0, .int .i64 0, .int .i64 0] m).toList = (List.range m).map fun _ => Value.int .i64 0 := by
  apply List.ext_getElem?
  intro j
  by_cases hj : j < m
  · have h5 : j % 5 < 5 := Nat.mod_lt _ (by omega)
    simp [madeCells, hj]
    have : j % 5 = 0 ∨ j % 5 = 1 ∨ j % 5 = 2 ∨ j % 5 = 3 ∨ j % 5 = 4 := by omega
    rcases this with h | h | h | h | h <;> simp [h]
  · simp [madeCells, hj]

theorem grid_init (n : Nat) : grid n 5 (GNet.init n).cell = (List.range (n * 5)).map fun _ => Value.int .i64 0 := by
  unfold grid
  apply List.map_congr_left
  intro j _
  show Value.int .i64 (if j % 5 = 0 then (0 : Int) else if j % 5 = 1 then 0 else if j % 5 = 2 then 0 else if j % 5 = 3 then ((0 : Nat) : Int) else ((0 : Nat) : Int)) = _
  split
  · rfl
  split
  · rfl
  split
  · rfl
  split <;> rfl

theorem GAt.first (w w1 : World) (n gN : Nat) (e : TypeId) (S : Nat → Prop) (hS : ∀ b, S b → b < gN) (hg : gN < w1.heap.size) (ho : w1.ownsRow 0 56 5 (.slice (some ⟨gN, 0, none⟩) n n) n (grid n 5 (GNet.init n).cell)) :
    GAt S (w1.alloc (.cells #[.slice (some ⟨gN, 0, none⟩) n n, .slice none 0 0] e)) w1.heap.size (GNet.init n) n 0 (upd nilV .nodes (.slice (some ⟨gN, 0, none⟩) n n)) (fun b => if b = w1.heap.size then some none else if b = gN then some (some .nodes) else none) where
  hS := fun b hb => by
    have := hS b hb
    exact ⟨by rw [if_neg (by omega), if_neg (by omega)], by simp; omega⟩
  ht := if_pos rfl
  blk := Blk.alloc w1 [.slice (some ⟨gN, 0, none⟩) n n, .slice none 0 0] e
  row := fun i => by
    cases i with
    | nodes => exact ((Chg.refl NoF w1).alloc _).row ho (fun _ _ hf => hf)
    | ways => exact World.ownsRow_nil _ _ _ _
    | row p => exact World.ownsRow_nil _ _ _ _
    | msg p q =>
      have : (GNet.init n).rows n 0 (upd nilV .nodes (.slice (some ⟨gN, 0, none⟩) n n)) (.msg p q) = Sl.none := GNet.rowsM0 _ _ _ _ (by omega)
      rw [this]; exact World.ownsRow_nil _ _ _ _
  tg := fun i b hb => by
    cases i with
    | nodes =>
      obtain rfl : gN = b := by
        have hb : (Value.slice (some ⟨gN, 0, none⟩) n n).ownBlock = some b := hb
        simpa [Value.ownBlock] using hb
      rw [if_neg (by omega), if_pos rfl]
    | ways => cases hb
    | row p => cases hb
    | msg p q =>
      have : (GNet.init n).rows n 0 (upd nilV .nodes (.slice (some ⟨gN, 0, none⟩) n n)) (.msg p q) = Sl.none := GNet.rowsM0 _ _ _ _ (by omega)
      rw [this] at hb; cases hb

section
variable {S : Nat → Prop} {w w1 w2 : World} {t n : Nat} {k m : Nat} {V : Ix → Value} {tag : Nat → Option (Option Ix)}

/-- One row of ways more. -/
def addV (V : Ix → Value) (m : Nat) (r v : Value) : Ix → Value
  | .nodes => V .nodes
  | .ways => v
  | .row p => if p = m then r else V (.row p)
  | .msg p q => if p = m then .slice none 0 0 else V (.msg p q)

theorem GAt.addRow (h : GAt S w t (GNet.init n) k m V tag) (hc0 : Chg NoF w w1) (r : Value) (hr : w1.ownsRow 0 63 1 r n (List.replicate n (.slice none 0 0))) (hrb : ∀ b, r.ownBlock = some b → w.heap.size ≤ b)
    (hc : Chg (fun b => (V .ways).ownBlock = some b) w1 w2) (v : Value) (ho : w2.ownsRow 0 46 1 v (m + 1) ((List.range m).map (fun p => V (.row p)) ++ [r]))
    (hb : ∀ b, v.ownBlock = some b → (V .ways).ownBlock = some b ∨ w1.heap.size ≤ b) : ∃ tag', GAt S (w2.setCell ⟨t, 1, none⟩ v) t (GNet.init n) k (m + 1) (addV V m r v) tag' := by
  have eR : (GNet.init n).rows k m V (.row m) = Sl.none := if_neg (by omega)
  have h1 := Mem.newRow h (.row m) (w1 := w1) (by rw [eR]; exact hc0.mono fun _ _ => False.elim) 63 1 r n _ hr (fun b hb => .inr (hrb b hb))
  have h2 := h1.newRow .ways (w1 := w2) (by rw [upd_ne _ _ (by simp)]; exact hc) 46 1 v (m + 1) _ ho (by rw [upd_ne _ _ (by simp)]; exact hb)
  have h3 := h2.setTop 1 v
  refine ⟨_, Mem.congr (h3.nils ((GNet.init n).rows k (m + 1) (addV V m r v)) fun i => ?_) rfl fun i => rfl⟩
  cases i with
  | nodes => left; rw [upd_ne _ _ (by simp), upd_ne _ _ (by simp)]; rfl
  | ways =>
    left; rw [upd_self]
    show (⟨_, _, v, _, (List.range (m + 1)).map fun p => addV V m r v (.row p)⟩ : Sl) = _
    rw [List.range_succ, List.map_append]
    congr 2
    · apply List.map_congr_left
      intro p hp
      have := List.mem_range.1 hp
      exact if_neg (by omega)
    · show [if m = m then r else V (.row m)] = [r]
      rw [if_pos rfl]
  | row p =>
    by_cases e : p = m
    · subst e
      left
      rw [upd_ne _ _ (by simp), upd_self]
      rw [GNet.rowsR _ _ _ _ (by omega)]
      show (⟨_, _, if p = p then r else V (.row p), n, (List.range n).map fun q => if p = p then Value.slice none 0 0 else V (.msg p q)⟩ : Sl) = _
      rw [if_pos rfl]
      congr 1
      rw [List.map_congr_left (g := fun _ => Value.slice none 0 0) (fun q _ => if_pos rfl), List.map_const', List.length_range]
    · left
      rw [upd_ne _ _ (by simp), upd_ne _ _ (by simp [e])]
      show (if p < m + 1 then (⟨_, _, if p = m then r else V (.row p), _, (List.range n).map fun q => if p = m then Value.slice none 0 0 else V (.msg p q)⟩ : Sl) else _) = (if p < m then _ else _)
      by_cases hp : p < m
      · rw [if_pos (by omega), if_pos hp, if_neg e]
        congr 1
        exact List.map_congr_left fun q _ => if_neg e
      · rw [if_neg (by omega), if_neg hp]
  | msg p q =>
    by_cases e : p = m
    · subst e
      by_cases hq : q < n
      · right
        rw [GNet.rowsM _ _ _ _ (by omega) (show q < (GNet.init n).n from hq)]
        exact ⟨if_pos rfl, rfl, rfl⟩
      · right
        have : (GNet.init n).rows k (p + 1) (addV V p r v) (.msg p q) = Sl.none := GNet.rowsM0 _ _ _ _ (fun hh => hq hh.2)
        rw [this]; exact ⟨rfl, rfl, rfl⟩
    · left
      rw [upd_ne _ _ (by simp), upd_ne _ _ (by simp)]
      show (if p < m + 1 ∧ q < n then (⟨_, _, if p = m then Value.slice none 0 0 else V (.msg p q), _, _⟩ : Sl) else _) = (if p < m ∧ q < n then _ else _)
      by_cases hp : p < m ∧ q < n
      · rw [if_pos (by omega), if_pos hp, if_neg e]
      · rw [if_neg (by omega), if_neg hp]

end

def NewPost (w : World) (n : Int) (e : Ending) (w' : World) : Prop :=
  Chg NoF w w' ∧ ((inB n 1 4 = false ∧ e = .returned (.tuple #[.pointer none, errV 1])) ∨ (∃ k : Nat, n = k ∧ 1 ≤ k ∧ k ≤ 4 ∧ ∃ t g, e = .returned (.tuple #[.pointer (some ⟨t, 0, none⟩), .nilIface]) ∧ GIn (fun b => b < w.heap.size) w' t g (GNet.init k)))

theorem infoNode : (Tryd.prog.info? 56).map (fun i => (i.zero, i.size, i.bytes)) = some (some (.agg #[.int .i64 0, .int .i64 0, .int .i64 0, .int .i64 0, .int .i64 0]), 5, 40) := by kernel_rfl
theorem infoSl : (Tryd.prog.info? 63).map (fun i => (i.zero, i.size, i.bytes)) = some (some (.slice none 0 0), 1, 24) := by kernel_rfl
theorem infoSl2 : (Tryd.prog.info? 46).map (fun i => (i.zero, i.size, i.bytes)) = some (some (.slice none 0 0), 1, 24) := by kernel_rfl

set_option maxHeartbeats 4000000 in
set_option maxRecDepth 100000 in
theorem new_any (n : Int) (w : World) : Calls Tryd.prog 4 #[.int .i64 n] w (NewPost w n) := by
  cases hin : inB n 1 4 with
  | false =>
    go_enter Tryd.func4, Tryd.ntmps4
    go_wp2_with fail
    refine (hands_any n _).mono ?_
    rintro e w' ⟨rfl, rfl⟩
    rw [hin, show errV (if false = true then 0 else 1) = .iface 47 (.int .i64 1) from rfl]
    go_wp2
    go_ret2
    exact ⟨Chg.refl _ _, .inl ⟨hin, rfl⟩⟩
  | true =>
    have hb : 1 ≤ n ∧ n ≤ 4 := by simpa [inB] using hin
    obtain ⟨n, rfl⟩ := Int.eq_ofNat_of_zero_le (show 0 ≤ n by omega)
    have hn1 : 1 ≤ n := by omega
    have hn4 : n ≤ 4 := by omega
    have HIN := Lib.hid hin
    clear hin hb
    go_enter Tryd.func4, Tryd.ntmps4
    go_wp2_with fail
    refine (hands_any n _).mono ?_
    rintro e w' ⟨rfl, rfl⟩
    rw [HIN.out, show errV (if true = true then 0 else 1) = .nilIface from rfl]
    go_wp2_with (at_make; refine wpList_plain rfl (fun K hK => wp_make (P := Tryd.prog) 42 _ _ rfl 56 (.agg #[.int .i64 0, .int .i64 0, .int .i64 0, .int .i64 0, .int .i64 0]) 5 40 infoNode Tryd.underlying42 .i64 .i64 n (by rfl) (by rfl) (by omega) (by omega) ?_); intro gN w1 hgN own1 hc1 hlt1; have HGN := Lib.hid hgN; clear hgN; refine hK _ _ ?_; clear hK)
    have eG : (madeCells (Value.agg #[.int .i64 0, .int .i64 0, .int .i64 0, .int .i64 0, .int .i64 0]).cells (n * 5)).toList = grid n 5 (GNet.init n).cell := by
      rw [grid_init]; exact zeros_cells _
    rw [eG] at own1
    have HA := Lib.hid (GAt.first w w1 n gN 45 (fun b => b < w.heap.size) (fun b hb => by rw [HGN.out]; exact hb) hlt1 own1)
    have HC0 : Hid (Chg NoF w (w1.alloc (.cells #[.slice (some ⟨gN, 0, none⟩) n n, .slice none 0 0] 45))) := Lib.hid (hc1.alloc _)
    have HV0 : Hid (upd nilV .nodes (.slice (some ⟨gN, 0, none⟩) n n) .nodes = .slice (some ⟨gN, 0, none⟩) n n) := Lib.hid (upd_self _ _ _)
    obtain ⟨t, hT⟩ : ∃ t, Hid (w1.heap.size = t) := ⟨_, Lib.hid rfl⟩
    have hnS : Hid (¬ t < w.heap.size) := Lib.hid (by rw [← hT.out]; have := hc1.size; omega)
    rw [hT.out] at HA ⊢
    clear own1 hc1 hlt1 eG
    go_loopw [16] (fun i wr => ∃ k : Nat, k ≤ n ∧ i = .int .i64 k ∧ ∃ V tag, Hid (GAt (fun b => b < w.heap.size) wr t (GNet.init n) n k V tag) ∧ Hid (V .nodes = .slice (some ⟨gN, 0, none⟩) n n) ∧ Hid (Chg NoF w wr)) (fun i _ => n - (intOf i).toNat)
    case atStart => exact ⟨0, Nat.zero_le _, rfl, _, _, HA, HV0, HC0⟩
    case round =>
      obtain ⟨k, hkn, rfl, V, tag, HK2, HVN, HC2⟩ := hrel
      by_cases hlt : k < n
      · have hk1 : (k : Int) < n := by omega
        obtain ⟨vw, HV2⟩ : ∃ x, Hid (V .ways = x) := ⟨_, Lib.hid rfl⟩
        have c1 := HK2.out.top1
        rw [HV2.out] at c1
        have f1 := HK2.out.blk.frozen 1
        have tlt := HK2.out.blk.lt
        have nW : ¬ vw.ownBlock = some t := by
          have := Mem.tne HK2.out (i := .ways)
          rw [← HV2.out]; exact this
        have ownW : _ := HK2.out.row .ways
        have ownW : World.ownsRow _ 0 46 1 (V .ways) k ((List.range k).map fun p => V (.row p)) := ownW
        rw [HV2.out] at ownW
        go_wp2_with fail
        refine wp_region_plan (Chg (fun b => vw.ownBlock = some b) _) 11 [(0,true),(1,true),(2,true),(3,true),(4,true),(5,true),(6,false),(7,false),(8,false),(9,true),(10,true),(11,false)] mixed (by kernel_rfl) (Chg.refl _ _).drew ?_
        simp only [planOps, List.map_cons, List.map_nil, List.getElem?_cons_zero, List.getElem?_cons_succ, Option.getD_some]
        generalize List.toArray _ = ops
        iterate 6 (refine wpPlan_quiet (v := ?_) rfl (fun _ _ _ h => h) (by intro w1 hS; have s1 := hS.cell_some c1 nW; clear hS; go_simp; with_reducible rfl) ?_; (simp only [Act.put, List.setIfInBounds_toArray, List.set_cons_zero, List.set_cons_succ]))
        refine wpPlan_loud rfl (fun K hK => ?_)
        refine wp_make (P := Tryd.prog) 46 _ _ rfl 63 (.slice none 0 0) 1 24 infoSl Tryd.underlying46 .i64 .i64 n (by rfl) (by rfl) (by omega) (by omega) ?_
        intro g3 w3 hg3 own3 hc3 hlt3
        have HG3 := Lib.hid hg3
        clear hg3
        have hc3' : Chg NoF _ w3 := ((Chg.refl NoF _).drew).trans hc3
        refine hK _ _ (fun _ => hc3'.ofNo) ?_
        clear hK K
        (simp only [Act.put, List.setIfInBounds_toArray, List.set_cons_zero, List.set_cons_succ])
        refine wpPlan_loud rfl (fun K hK => ?_)
        go_simp
        refine hK _ _ (fun _ => (hc3'.alloc _).ofNo) ?_
        clear hK K
        refine wpPlan_loud rfl (fun K hK => ?_)
        refine wp_app _ _ 43 rfl 46 (.slice none 0 0) 1 24 infoSl2 Tryd.underlying43 rfl (by decide) vw k _ (by rfl) ((hc3'.alloc _).row ownW (fun _ _ hf => hf)) w3.heap.size 1 [.slice (some ⟨g3, 0, none⟩) n n] (by rfl) ⟨46, (0, 0), heap_alloc_new w3 _⟩ rfl (by simp [Value.oneCell']) (by omega) (by omega) ?_
        intro g4 cap4 w4 hown4 hc4 hat4 hlt4
        have hc5 : Chg (fun b => vw.ownBlock = some b) _ w4 := ((hc3'.alloc _).ofNo).trans hc4
        refine hK _ _ (fun _ => hc5) ?_
        clear hK K
        (simp only [Act.put, List.setIfInBounds_toArray, List.set_cons_zero, List.set_cons_succ])
        iterate 2 (refine wpPlan_quiet (v := ?_) rfl (fun _ _ _ h => h) (by intro w1 hS; have s1 := hS.cell_some c1 nW; clear hS; go_simp; with_reducible rfl) ?_; (simp only [Act.put, List.setIfInBounds_toArray, List.set_cons_zero, List.set_cons_succ]))
        refine wpPlan_loud rfl (fun K hK => ?_)
        have s2 := hc5.cell_some c1 nW
        have f2 : w4.frozen? ⟨t, 1, none⟩ = false := by rw [World.frozen?_of_block (hc5.block t tlt nW)]; exact f1
        go_simp
        refine hK _ _ (fun h => absurd rfl h) ?_
        clear hK K
        refine wpPlan_nil ?_
        have eR : (madeCells (Value.slice none 0 0).cells (n * 1)).toList = List.replicate n (Value.slice none 0 0) := by
          rw [Nat.mul_one]; exact toList_madeCells_one _ _
        rw [eR] at own3
        have hADD := HK2.out.addRow (hc3'.alloc _) (.slice (some ⟨g3, 0, none⟩) n n) (((Chg.refl NoF w3).alloc _).row own3 (fun _ _ hf => hf)) (fun b hb => by
          obtain rfl : g3 = b := by simpa [Value.ownBlock] using hb
          rw [HG3.out]; exact Nat.le_refl _) (by rw [HV2.out]; exact hc4) (.slice (some ⟨g4, 0, none⟩) (k + 1) cap4) hown4 (fun b hb => by rw [HV2.out]; exact hat4 b hb)
        have HC5 : Hid (Chg NoF w (w4.setCell ⟨t, 1, none⟩ (.slice (some ⟨g4, 0, none⟩) (k + 1) cap4))) := Lib.hid ((HC2.out.ofNo.trans ((HK2.out.chgNew .ways (by show Chg (fun b => (V .ways).ownBlock = some b) _ w4; rw [HV2.out]; exact hc5)).setCell (.inl hnS.out) _)).mono fun b hb hf => hf hb)
        have HADD := Lib.hid hADD
        have HVN2 : Hid (addV V k (.slice (some ⟨g3, 0, none⟩) n n) (.slice (some ⟨g4, 0, none⟩) (k + 1) cap4) .nodes = .slice (some ⟨gN, 0, none⟩) n n) := HVN
        clear hADD hc5 hown4 hat4 hlt4 hc4 hc3' hc3 own3 hlt3 c1 f1 tlt nW ownW s2 f2 HV2 HK2 HC2
        generalize w4.setCell ⟨t, 1, none⟩ _ = w5 at *
        go_wp2
        go_roundw
        case rel =>
          obtain ⟨tag', hA⟩ := HADD.out
          exact ⟨k + 1, by omega, by go_num, _, tag', Lib.hid hA, HVN2, HC5⟩
        case measure => simp [intOf]; omega
      · obtain rfl : k = n := by omega
        go_wp2
        go_ret2
        exact ⟨HC2.out, .inr ⟨k, rfl, hn1, hn4, t, gN, rfl, V, tag, ⟨k, HVN.out⟩, HK2.out⟩⟩

set_option maxHeartbeats 1000000 in
theorem state_any (S : Nat → Prop) (w : World) (t g : Nat) (s : GNet) (h : GIn S w t g s) (hs : 0 < s.n) (p : Int) :
    Calls Tryd.prog 13 #[.pointer (some ⟨t, 0, none⟩), .int .i64 p] w fun e w' => e = .returned (.int .i64 (if s.is p = true then s.st p.toNat else -1)) ∧ w = w' := by
  have HP := Lib.hid (is_any S w t g s h hs p)
  cases hip : s.is p with
  | false =>
    rw [hip] at HP
    clear h hs hip
    go_enter Tryd.func13, Tryd.ntmps13
    go_wp2_with fail
    refine HP.out.mono ?_
    rintro e w' ⟨rfl, rfl⟩
    go_wp2
    go_ret
    exact ⟨rfl, rfl⟩
  | true =>
    rw [hip] at HP
    obtain ⟨a, rfl, ha⟩ := (s.is_iff p).1 hip
    rw [Int.toNat_natCast]
    obtain ⟨V, tag, ⟨cN, vN⟩, h⟩ := h
    obtain ⟨_, _, _, _, c0⟩ := h.nodeAt vN
    have d0 := (h.fields vN ha).1
    obtain ⟨n, hN⟩ : ∃ n, Hid (s.n = n) := ⟨_, Lib.hid rfl⟩
    rw [hN.out] at c0 ha
    have ha1 : (a : Int) < n := by omega
    clear h vN hip
    go_enter Tryd.func13, Tryd.ntmps13
    go_wp2_with fail
    refine HP.out.mono ?_
    rintro e w' ⟨rfl, rfl⟩
    go_wp2
    go_ret
    exact ⟨rfl, rfl⟩

set_option maxHeartbeats 1000000 in
theorem time_any (S : Nat → Prop) (w : World) (t g : Nat) (s : GNet) (h : GIn S w t g s) (hs : 0 < s.n) (p : Int) :
    Calls Tryd.prog 14 #[.pointer (some ⟨t, 0, none⟩), .int .i64 p] w fun e w' => e = .returned (.int .i64 (if s.is p = true then s.tm p.toNat else -1)) ∧ w = w' := by
  have HP := Lib.hid (is_any S w t g s h hs p)
  cases hip : s.is p with
  | false =>
    rw [hip] at HP
    clear h hs hip
    go_enter Tryd.func14, Tryd.ntmps14
    go_wp2_with fail
    refine HP.out.mono ?_
    rintro e w' ⟨rfl, rfl⟩
    go_wp2
    go_ret
    exact ⟨rfl, rfl⟩
  | true =>
    rw [hip] at HP
    obtain ⟨a, rfl, ha⟩ := (s.is_iff p).1 hip
    rw [Int.toNat_natCast]
    obtain ⟨V, tag, ⟨cN, vN⟩, h⟩ := h
    obtain ⟨_, _, _, _, c0⟩ := h.nodeAt vN
    have d0 := (h.fields vN ha).2.2.1
    obtain ⟨n, hN⟩ : ∃ n, Hid (s.n = n) := ⟨_, Lib.hid rfl⟩
    rw [hN.out] at c0 ha
    have ha1 : (a : Int) < n := by omega
    clear h vN hip
    go_enter Tryd.func14, Tryd.ntmps14
    go_wp2_with fail
    refine HP.out.mono ?_
    rintro e w' ⟨rfl, rfl⟩
    go_wp2
    go_ret
    exact ⟨rfl, rfl⟩

theorem GIn.mono {S S' : Nat → Prop} {w : World} {t g : Nat} {s : GNet} (h : GIn S w t g s) (hS : ∀ b, S' b → S b) : GIn S' w t g s := by
  obtain ⟨V, tag, hg, h⟩ := h
  exact ⟨V, tag, hg, ⟨fun b hb => h.hS b (hS b hb), h.ht, h.blk, h.row, h.tg⟩⟩


end Go.Proofs.YtmkjfiopkmcjcaaDoor
