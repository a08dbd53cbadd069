/-
  The net of work and thanks: a new one.
  Conditions: none.
-/
import Derived.Test.YtbckjmbhipofaaaDoorCaD
namespace Go.Proofs.YtbckjmbhipofaaaDoor
open Go Go.RowKit

theorem grid_succ (n k : Nat) (f : Nat → Nat → Value) (hk : 0 < k) : grid (n + 1) k f = grid n k f ++ (List.range k).map (f n) := by
  unfold grid
  rw [Nat.add_mul, Nat.one_mul, List.range_add, List.map_append]
  congr 1
  rw [List.map_map]
  apply List.map_congr_left
  intro j hj
  have hj := List.mem_range.1 hj
  show f ((n * k + j) / k) ((n * k + j) % k) = f n j
  have h1 : (n * k + j) / k = n := by
    rw [Nat.add_comm, Nat.add_mul_div_right _ _ hk, Nat.div_eq_of_lt hj]; omega
  have h2 : (n * k + j) % k = j := by
    rw [Nat.add_comm, Nat.add_mul_mod_self_right, Nat.mod_eq_of_lt hj]
  rw [h1, h2]

/-- Slices that are nil need no block. -/
theorem Mem.nils {ι : Type} [DecidableEq ι] {S : Nat → Prop} {w : World} {t : Nat} {top : List Value} {R : ι → Sl} {tag : Nat → Option (Option ι)} (h : Mem S w t top R tag) (R' : ι → Sl) (hR : ∀ i, R' i = R i ∨ ((R' i).v = .slice none 0 0 ∧ (R' i).n = 0 ∧ (R' i).xs = [])) : Mem S w t top R' tag where
  hS := h.hS
  ht := h.ht
  blk := h.blk
  row := fun i => by
    rcases hR i with e | ⟨e1, e2, e3⟩
    · rw [e]; exact h.row i
    · rw [e1, e2, e3]; exact World.ownsRow_nil _ _ _ _
  tg := fun i b hb => by
    rcases hR i with e | ⟨e1, e2, e3⟩
    · rw [e] at hb; exact h.tg i b hb
    · rw [e1] at hb; cases hb

def CNet.blank (n : Nat) : CNet := ⟨n, fun _ => false, fun _ => -1, fun _ => 0, fun _ _ => [], 0, false⟩
def nilV : Ix → Value := fun _ => .slice none 0 0

theorem CAt.blank (w : World) (n : Nat) (e : TypeId) (S : Nat → Prop) (hS : ∀ b, S b → b < w.heap.size) :
    CAt S (w.alloc (.cells #[.slice none 0 0, .slice none 0 0, .int .i64 0, .bool false] e)) w.heap.size (CNet.blank n) 0 0 nilV (fun b => if b = w.heap.size then some none else none) where
  hS := fun b hb => ⟨if_neg (by have := hS b hb; omega), by have := hS b hb; simp; omega⟩
  ht := if_pos rfl
  blk := Blk.alloc w [.slice none 0 0, .slice none 0 0, .int .i64 0, .bool false] e
  row := fun i => by
    cases i with
    | nodes => exact World.ownsRow_nil _ _ _ _
    | ways => exact World.ownsRow_nil _ _ _ _
    | row p => exact World.ownsRow_nil _ _ _ _
    | msg p q =>
      have : (CNet.blank n).rows 0 0 nilV (.msg p q) = Sl.none := CNet.rowsM0 _ _ _ _ (by omega)
      rw [this]; exact World.ownsRow_nil _ _ _ _
  tg := fun i b hb => by
    cases i with
    | nodes => cases hb
    | ways => cases hb
    | row p => cases hb
    | msg p q =>
      have : (CNet.blank n).rows 0 0 nilV (.msg p q) = Sl.none := CNet.rowsM0 _ _ _ _ (by omega)
      rw [this] at hb; cases hb

section
variable {S : Nat → Prop} {w w1 w2 : World} {t n : Nat} {k m : Nat} {V : Ix → Value} {tag : Nat → Option (Option Ix)}

/-- One node more. -/
theorem CAt.addNode (h : CAt S w t (CNet.blank n) k m V tag) (hc : Chg (fun b => (V .nodes).ownBlock = some b) w w1) (v : Value) (ho : w1.ownsRow 0 52 3 v (k + 1) (grid k 3 (CNet.blank n).cell ++ [.bool false, .int .i64 (-1), .int .i64 0]))
    (hb : ∀ b, v.ownBlock = some b → (V .nodes).ownBlock = some b ∨ w.heap.size ≤ b) : CAt S (w1.setCell ⟨t, 0, none⟩ v) t (CNet.blank n) (k + 1) m (upd V .nodes v) (mark tag v.ownBlock Ix.nodes) := by
  have h1 := Mem.newRow h .nodes hc 52 3 v (k + 1) _ ho hb
  have h2 := h1.setTop 0 v
  refine h2.congr rfl fun i => ?_
  cases i with
  | nodes =>
    rw [upd_self]
    show _ = (⟨_, _, upd V .nodes v .nodes, _, grid (k + 1) 3 (CNet.blank n).cell⟩ : Sl)
    rw [upd_self, grid_succ _ _ _ (by omega)]
    rfl
  | ways =>
    rw [upd_ne _ _ (by simp)]
    show (⟨_, _, V .ways, _, _⟩ : Sl) = ⟨_, _, upd V .nodes v .ways, _, (List.range m).map fun p => upd V .nodes v (.row p)⟩
    rw [upd_ne V _ (by simp)]
    have : (fun p => upd V .nodes v (.row p)) = fun p => V (.row p) := funext fun p => upd_ne V _ (by simp)
    rw [this]
  | row p =>
    rw [upd_ne _ _ (by simp)]
    show (if p < m then _ else _) = (if p < m then (⟨_, _, upd V .nodes v (.row p), _, (List.range (CNet.blank n).n).map fun q => upd V .nodes v (.msg p q)⟩ : Sl) else _)
    rw [upd_ne V _ (by simp)]
    have : (fun q => upd V .nodes v (.msg p q)) = fun q => V (.msg p q) := funext fun q => upd_ne V _ (by simp)
    rw [this]
  | msg p q =>
    rw [upd_ne _ _ (by simp)]
    show (if p < m ∧ q < n then _ else _) = (if p < m ∧ q < n then (⟨_, _, upd V .nodes v (.msg p q), _, _⟩ : Sl) else _)
    rw [upd_ne V _ (by simp)]

/-- One row of ways more. -/
def addV (V : Ix → Value) (m : Nat) (r v : Value) : Ix → Value
  | .nodes => V .nodes
  | .ways => v
  | .row p => if p = m then r else V (.row p)
  | .msg p q => if p = m then .slice none 0 0 else V (.msg p q)

theorem CAt.addRow (h : CAt S w t (CNet.blank n) k m V tag) (hc0 : Chg NoF w w1) (r : Value) (hr : w1.ownsRow 0 29 1 r n (List.replicate n (.slice none 0 0))) (hrb : ∀ b, r.ownBlock = some b → w.heap.size ≤ b)
    (hc : Chg (fun b => (V .ways).ownBlock = some b) w1 w2) (v : Value) (ho : w2.ownsRow 0 22 1 v (m + 1) ((List.range m).map (fun p => V (.row p)) ++ [r]))
    (hb : ∀ b, v.ownBlock = some b → (V .ways).ownBlock = some b ∨ w1.heap.size ≤ b) : ∃ tag', CAt S (w2.setCell ⟨t, 1, none⟩ v) t (CNet.blank n) k (m + 1) (addV V m r v) tag' := by
  have eR : (CNet.blank n).rows k m V (.row m) = Sl.none := if_neg (by omega)
  have h1 := Mem.newRow h (.row m) (w1 := w1) (by rw [eR]; exact hc0.mono fun _ _ => False.elim) 29 1 r n _ hr (fun b hb => .inr (hrb b hb))
  have h2 := h1.newRow .ways (w1 := w2) (by rw [upd_ne _ _ (by simp)]; exact hc) 22 1 v (m + 1) _ ho (by rw [upd_ne _ _ (by simp)]; exact hb)
  have h3 := h2.setTop 1 v
  refine ⟨_, Mem.congr (h3.nils ((CNet.blank n).rows k (m + 1) (addV V m r v)) fun i => ?_) rfl fun i => rfl⟩
  cases i with
  | nodes => left; rw [upd_ne _ _ (by simp), upd_ne _ _ (by simp)]; rfl
  | ways =>
    left; rw [upd_self]
    show (⟨_, _, v, _, (List.range (m + 1)).map fun p => addV V m r v (.row p)⟩ : Sl) = _
    rw [List.range_succ, List.map_append]
    congr 2
    · apply List.map_congr_left
      intro p hp
      have := List.mem_range.1 hp
      exact if_neg (by omega)
    · show [if m = m then r else V (.row m)] = [r]
      rw [if_pos rfl]
  | row p =>
    by_cases e : p = m
    · subst e
      left
      rw [upd_ne _ _ (by simp), upd_self]
      rw [CNet.rowsR _ _ _ _ (by omega)]
      show (⟨_, _, if p = p then r else V (.row p), n, (List.range n).map fun q => if p = p then Value.slice none 0 0 else V (.msg p q)⟩ : Sl) = _
      rw [if_pos rfl]
      congr 1
      rw [List.map_congr_left (g := fun _ => Value.slice none 0 0) (fun q _ => if_pos rfl), List.map_const', List.length_range]
    · left
      rw [upd_ne _ _ (by simp), upd_ne _ _ (by simp [e])]
      show (if p < m + 1 then (⟨_, _, if p = m then r else V (.row p), _, (List.range n).map fun q => if p = m then Value.slice none 0 0 else V (.msg p q)⟩ : Sl) else _) = (if p < m then _ else _)
      by_cases hp : p < m
      · rw [if_pos (by omega), if_pos hp, if_neg e]
        congr 1
        exact List.map_congr_left fun q _ => if_neg e
      · rw [if_neg (by omega), if_neg hp]
  | msg p q =>
    by_cases e : p = m
    · subst e
      by_cases hq : q < n
      · right
        rw [CNet.rowsM _ _ _ _ (by omega) (show q < (CNet.blank n).n from hq)]
        exact ⟨if_pos rfl, rfl, rfl⟩
      · right
        have : (CNet.blank n).rows k (p + 1) (addV V p r v) (.msg p q) = Sl.none := CNet.rowsM0 _ _ _ _ (fun hh => hq hh.2)
        rw [this]; exact ⟨rfl, rfl, rfl⟩
    · left
      rw [upd_ne _ _ (by simp), upd_ne _ _ (by simp)]
      show (if p < m + 1 ∧ q < n then (⟨_, _, if p = m then Value.slice none 0 0 else V (.msg p q), _, _⟩ : Sl) else _) = (if p < m ∧ q < n then _ else _)
      by_cases hp : p < m ∧ q < n
      · rw [if_pos (by omega), if_pos hp, if_neg e]
      · rw [if_neg (by omega), if_neg hp]

end

theorem CAt.init {S : Nat → Prop} {w : World} {t n g cap : Nat} {V : Ix → Value} {tag : Nat → Option (Option Ix)} (h : CAt S w t (CNet.blank n) n n V tag) (hn : 0 < n) (hv : V .nodes = .slice (some ⟨g, 0, none⟩) n cap) :
    CAt S (((w.setCell ⟨g, 0, none⟩ (.bool true)).setCell ⟨g, 1, none⟩ (.int .i64 0)).setCell ⟨g, 2, none⟩ (.int .i64 0)) t (CNet.init n) n n V tag := by
  have h1 := CAt.setWorks (s := CNet.blank n) (p := 0) h hv hn true
  have h2 := CAt.setParent (s := { CNet.blank n with works := put1 (CNet.blank n).works 0 true }) (p := 0) h1 hv hn 0
  have h3 := CAt.setOwed (s := { CNet.blank n with works := put1 (CNet.blank n).works 0 true, parent := put1 (CNet.blank n).parent 0 0 }) (p := 0) h2 hv hn 0
  have e : ({ CNet.blank n with works := put1 (CNet.blank n).works 0 true, parent := put1 (CNet.blank n).parent 0 0, owed := put1 (CNet.blank n).owed 0 0 } : CNet) = CNet.init n := by
    have a1 : put1 (fun _ => false) 0 true = fun p => decide (p = 0) := funext fun p => by unfold put1; by_cases e : p = 0 <;> simp [e]
    have a2 : put1 (fun _ => (-1 : Int)) 0 0 = fun p => if p = 0 then 0 else -1 := rfl
    have a3 : put1 (fun _ => (0 : Int)) 0 0 = fun _ => 0 := funext fun p => by unfold put1; by_cases e : p = 0 <;> simp [e]
    show CNet.mk n (put1 (fun _ => false) 0 true) (put1 (fun _ => -1) 0 0) (put1 (fun _ => 0) 0 0) (fun _ _ => []) 0 false = CNet.mk n _ _ _ _ _ _
    rw [a1, a2, a3]
  rw [← e]; exact h3

def NewPost (w : World) (n : Int) (e : Ending) (w' : World) : Prop :=
  Chg NoF w w' ∧ ((inB n 1 5 = false ∧ e = .returned (.tuple #[.pointer none, errV 1])) ∨ (∃ k : Nat, n = k ∧ 1 ≤ k ∧ k ≤ 5 ∧ ∃ t g, e = .returned (.tuple #[.pointer (some ⟨t, 0, none⟩), .nilIface]) ∧ CIn (fun b => b < w.heap.size) w' t g (CNet.init k)))

theorem infoNode : (Tryd.prog.info? 52).map (fun i => (i.zero, i.size, i.bytes)) = some (some (.agg #[.bool false, .int .i64 0, .int .i64 (0)]), 3, 24) := by kernel_rfl
theorem infoSl : (Tryd.prog.info? 29).map (fun i => (i.zero, i.size, i.bytes)) = some (some (.slice none 0 0), 1, 24) := by kernel_rfl
theorem infoSl2 : (Tryd.prog.info? 22).map (fun i => (i.zero, i.size, i.bytes)) = some (some (.slice none 0 0), 1, 24) := by kernel_rfl

set_option maxHeartbeats 4000000 in
set_option maxRecDepth 100000 in
theorem new_any (n : Int) (w : World) : Calls Tryd.prog 4 #[.int .i64 n] w (NewPost w n) := by
  cases hin : inB n 1 5 with
  | false =>
    go_enter Tryd.func4, Tryd.ntmps4
    go_wp2_with fail
    refine (within_any _ _ _ _).mono ?_
    rintro e w' ⟨rfl, rfl⟩
    rw [hin]
    go_wp2
    go_ret2
    exact ⟨Chg.refl _ _, .inl ⟨hin, rfl⟩⟩
  | true =>
    have hb : 1 ≤ n ∧ n ≤ 5 := by simpa [inB] using hin
    obtain ⟨n, rfl⟩ := Int.eq_ofNat_of_zero_le (show 0 ≤ n by omega)
    have hn1 : 1 ≤ n := by omega
    have hn5 : n ≤ 5 := by omega
    have HIN := Lib.hid hin
    clear hin hb
    go_enter Tryd.func4, Tryd.ntmps4
    go_wp2_with fail
    refine (within_any _ _ _ _).mono ?_
    rintro e w' ⟨rfl, rfl⟩
    rw [HIN.out]
    go_wp2_with fail
    have HA := Lib.hid (CAt.blank w n 50 (fun b => b < w.heap.size) (fun b hb => hb))
    have HC0 : Hid (Chg NoF w (w.alloc (.cells #[.slice none 0 0, .slice none 0 0, .int .i64 0, .bool false] 50))) := Lib.hid ((Chg.refl NoF w).alloc _)
    obtain ⟨t, hT⟩ : ∃ t, Hid (w.heap.size = t) := ⟨_, Lib.hid rfl⟩
    rw [hT.out] at HA ⊢
    have HSw := Lib.hid hT
    go_loopw [12] (fun i wr => ∃ k : Nat, k ≤ n ∧ i = .int .i64 k ∧ ∃ V tag, Hid (CAt (fun b => b < t) wr t (CNet.blank n) k k V tag) ∧ Hid (Chg NoF w wr)) (fun i _ => n - (intOf i).toNat)
    case atStart => exact ⟨0, Nat.zero_le _, rfl, nilV, _, HA, HC0⟩
    case round =>
      obtain ⟨k, hkn, rfl, V, tag, HK, HC⟩ := hrel
      by_cases hlt : k < n
      · have hk1 : (k : Int) < n := by omega
        have c0 := HK.out.top0
        have c1 := HK.out.top1
        have f0 := HK.out.blk.frozen 0
        have f1 := HK.out.blk.frozen 1
        have tlt := HK.out.blk.lt
        have nN : ¬ (V .nodes).ownBlock = some t := Mem.tne HK.out (i := .nodes)
        have ownN : wr.ownsRow 0 52 3 (V .nodes) k (grid k 3 (CNet.blank n).cell) := HK.out.row .nodes
        obtain ⟨i0, hi, hz0, hz1, hz2⟩ := info_parts infoNode
        obtain ⟨vn, hVN⟩ : ∃ x, Hid (V .nodes = x) := ⟨_, Lib.hid rfl⟩
        obtain ⟨vw, hVW⟩ : ∃ x, Hid (V .ways = x) := ⟨_, Lib.hid rfl⟩
        rw [hVN.out] at c0 nN ownN
        rw [hVW.out] at c1
        go_wp2_with (at_builtin; refine wpList_append_lies _ rfl _ _ 47 rfl 0 52 i0 _ 3 24 Tryd.underlying47 hi hz0 hz1 hz2 rfl (by decide) vn k _ rfl (ownN.alloc _) ⟨wr.heap.size, 0, none⟩ 1 1 [.bool false, .int .i64 (-1), .int .i64 0] rfl rfl (World.news_of_block (cs := #[.bool false, .int .i64 (-1), .int .i64 0]) (t := 52) (fr := (0, 0)) (heap_alloc_new wr _)) (by simp [Value.oneCell']) (by omega) (by unfold maxLen; omega) (by omega) (by simp) _ rfl ?_; intro g cap w1 hown1 hgrow1 hat1 hlt1; have hc1 : Chg (fun b => vn.ownBlock = some b) wr w1 := ((Chg.refl _ wr).alloc _).grown hgrow1 (fun k hk => .inl hk); have c0' := hc1.cell_some c0 nN; have f0' : w1.frozen? ⟨t, 0, none⟩ = false := by (rw [World.frozen?_of_block (hc1.block t tlt nN)]; exact f0))
        have HA2 := HK.out.addNode (by rw [hVN.out]; exact hc1) (.slice (some ⟨g, 0, none⟩) (k + 1) cap) hown1 (fun b hb => by
          obtain rfl : g = b := by simpa [Value.ownBlock] using hb
          rw [hVN.out]
          rcases hat1 with h1 | h1
          · exact .inl h1
          · right; rw [h1]; simp)
        have hnS : ¬ t < t := Nat.lt_irrefl t
        have hc2 : Chg (fun b => ¬ b < t) wr (w1.setCell ⟨t, 0, none⟩ (.slice (some ⟨g, 0, none⟩) (k + 1) cap)) := ((HK.out.chgNew .nodes (by show Chg (fun b => (V .nodes).ownBlock = some b) wr w1; rw [hVN.out]; exact hc1))).setCell (.inl hnS) _
        have HC2 : Hid (Chg NoF w (w1.setCell ⟨t, 0, none⟩ (.slice (some ⟨g, 0, none⟩) (k + 1) cap))) := Lib.hid ((HC.out.ofNo.trans hc2).mono fun b hb hf => hf (by rw [hT.out] at hb; exact hb))
        have HV2 : Hid (upd V .nodes (.slice (some ⟨g, 0, none⟩) (k + 1) cap) .ways = vw) := Lib.hid (by rw [upd_ne V _ (by simp)]; exact hVW.out)
        have HK2 := Lib.hid HA2
        clear HA2 hc2 hown1 hgrow1 hat1 hlt1 hc1 c0' f0' c0 c1 f0 f1 tlt nN ownN hVN hVW HK HC
        generalize w1.setCell ⟨t, 0, none⟩ _ = w2 at *
        generalize upd V .nodes _ = V2 at *
        generalize mark tag _ _ = tag2 at *
        have c1 := HK2.out.top1
        rw [HV2.out] at c1
        have f1 := HK2.out.blk.frozen 1
        have tlt := HK2.out.blk.lt
        have nW : ¬ vw.ownBlock = some t := by
          have := Mem.tne HK2.out (i := .ways)
          rw [← HV2.out]; exact this
        have ownW : w2.ownsRow 0 22 1 vw k ((List.range k).map fun p => V2 (.row p)) := by
          have := HK2.out.row .ways
          rw [← HV2.out]; exact this
        refine wp_region_plan (Chg (fun b => vw.ownBlock = some b) w2) 11 [(0,true),(1,true),(2,true),(3,true),(4,true),(5,true),(6,false),(7,false),(8,false),(9,true),(10,true),(11,false)] mixed (by kernel_rfl) (Chg.refl _ _).drew ?_
        simp only [planOps, List.map_cons, List.map_nil, List.getElem?_cons_zero, List.getElem?_cons_succ, Option.getD_some]
        generalize List.toArray _ = ops
        iterate 6 (refine wpPlan_quiet (v := ?_) rfl (fun _ _ _ h => h) (by intro w1 hS; have s1 := hS.cell_some c1 nW; clear hS; go_simp; with_reducible rfl) ?_; (simp only [Act.put, List.setIfInBounds_toArray, List.set_cons_zero, List.set_cons_succ]))
        refine wpPlan_loud rfl (fun K hK => ?_)
        refine wp_make (P := Tryd.prog) 22 _ _ rfl 29 (.slice none 0 0) 1 24 infoSl Tryd.underlying22 .i64 .i64 n (by rfl) (by rfl) (by omega) (by omega) ?_
        intro g3 w3 hg3 own3 hc3 hlt3
        have HG3 := Lib.hid hg3
        clear hg3
        have hc3' : Chg NoF w2 w3 := ((Chg.refl NoF w2).drew).trans hc3
        refine hK _ _ (fun _ => hc3'.ofNo) ?_
        clear hK K
        (simp only [Act.put, List.setIfInBounds_toArray, List.set_cons_zero, List.set_cons_succ])
        refine wpPlan_loud rfl (fun K hK => ?_)
        go_simp
        refine hK _ _ (fun _ => (hc3'.alloc _).ofNo) ?_
        clear hK K
        refine wpPlan_loud rfl (fun K hK => ?_)
        refine wp_app _ _ 48 rfl 22 (.slice none 0 0) 1 24 infoSl2 Tryd.underlying48 rfl (by decide) vw k _ (by rfl) ((hc3'.alloc _).row ownW (fun _ _ hf => hf)) w3.heap.size 1 [.slice (some ⟨g3, 0, none⟩) n n] (by rfl) ⟨22, (0, 0), heap_alloc_new w3 _⟩ rfl (by simp [Value.oneCell']) (by omega) (by omega) ?_
        intro g4 cap4 w4 hown4 hc4 hat4 hlt4
        have hc5 : Chg (fun b => vw.ownBlock = some b) w2 w4 := ((hc3'.alloc _).ofNo).trans hc4
        refine hK _ _ (fun _ => hc5) ?_
        clear hK K
        (simp only [Act.put, List.setIfInBounds_toArray, List.set_cons_zero, List.set_cons_succ])
        iterate 2 (refine wpPlan_quiet (v := ?_) rfl (fun _ _ _ h => h) (by intro w1 hS; have s1 := hS.cell_some c1 nW; clear hS; go_simp; with_reducible rfl) ?_; (simp only [Act.put, List.setIfInBounds_toArray, List.set_cons_zero, List.set_cons_succ]))
        refine wpPlan_loud rfl (fun K hK => ?_)
        have s2 := hc5.cell_some c1 nW
        have f2 : w4.frozen? ⟨t, 1, none⟩ = false := by rw [World.frozen?_of_block (hc5.block t tlt nW)]; exact f1
        go_simp
        refine hK _ _ (fun h => absurd rfl h) ?_
        clear hK K
        refine wpPlan_nil ?_
        have eR : (madeCells (Value.slice none 0 0).cells (n * 1)).toList = List.replicate n (Value.slice none 0 0) := by
          rw [Nat.mul_one]; exact toList_madeCells_one _ _
        rw [eR] at own3
        have hADD := HK2.out.addRow (hc3'.alloc _) (.slice (some ⟨g3, 0, none⟩) n n) (((Chg.refl NoF w3).alloc _).row own3 (fun _ _ hf => hf)) (fun b hb => by
          obtain rfl : g3 = b := by simpa [Value.ownBlock] using hb
          rw [HG3.out]; exact Nat.le_refl _) (by rw [HV2.out]; exact hc4) (.slice (some ⟨g4, 0, none⟩) (k + 1) cap4) hown4 (fun b hb => by rw [HV2.out]; exact hat4 b hb)
        have HC5 : Hid (Chg NoF w (w4.setCell ⟨t, 1, none⟩ (.slice (some ⟨g4, 0, none⟩) (k + 1) cap4))) := Lib.hid ((HC2.out.ofNo.trans ((HK2.out.chgNew .ways (by show Chg (fun b => (V2 .ways).ownBlock = some b) w2 w4; rw [HV2.out]; exact hc5)).setCell (.inl hnS) _)).mono fun b hb hf => hf (by rw [hT.out] at hb; exact hb))
        have HADD := Lib.hid hADD
        clear hADD hc5 hown4 hat4 hlt4 hc4 hc3' hc3 own3 hlt3 c1 f1 tlt nW ownW s2 f2 HV2 HK2 HC2
        generalize w4.setCell ⟨t, 1, none⟩ _ = w5 at *
        go_wp2
        go_roundw
        case rel =>
          obtain ⟨tag', hA⟩ := HADD.out
          exact ⟨k + 1, by omega, by go_num, _, tag', Lib.hid hA, HC5⟩
        case measure => simp [intOf]; omega
      · obtain rfl : k = n := by omega
        obtain ⟨g, cap, vN, _, _, _, _⟩ := Mem.val HK.out .nodes (by show 0 < k; omega)
        have vN : V .nodes = .slice (some ⟨g, 0, none⟩) k cap := vN
        obtain ⟨hcell, hfr, htN, hSg, c0⟩ := HK.out.nodeAt vN
        have d0 : wr.cell? ⟨g, 0, none⟩ = some ((CNet.blank k).cell 0 0) := hcell 0 0 (by omega) (by omega)
        have d1 : wr.cell? ⟨g, 1, none⟩ = some ((CNet.blank k).cell 0 1) := hcell 0 1 (by omega) (by omega)
        have d2 : wr.cell? ⟨g, 2, none⟩ = some ((CNet.blank k).cell 0 2) := hcell 0 2 (by omega) (by omega)
        have g0 : wr.frozen? ⟨g, 0, none⟩ = false := hfr _
        have g1 : wr.frozen? ⟨g, 1, none⟩ = false := hfr _
        have g2 : wr.frozen? ⟨g, 2, none⟩ = false := hfr _
        have HI := Lib.hid (HK.out.init (by omega) vN)
        have HCI : Hid (Chg NoF w (((wr.setCell ⟨g, 0, none⟩ (.bool true)).setCell ⟨g, 1, none⟩ (.int .i64 0)).setCell ⟨g, 2, none⟩ (.int .i64 0))) := Lib.hid ((HC.out.ofNo.trans (((((Chg.refl (fun b => ¬ b < t) wr).setCell (.inl hSg) _)).setCell (.inl hSg) _).setCell (.inl hSg) _)).mono fun b hb hf => hf (by rw [hT.out] at hb; exact hb))
        have VN := Lib.hid vN
        have hk0 : (0 : Int) < k := by omega
        clear hcell hfr vN hSg
        go_wp2
        go_ret2
        refine ⟨HCI.out, .inr ⟨k, rfl, hn1, hn5, t, g, rfl, V, tag, ⟨cap, VN.out⟩, ?_⟩⟩
        rw [hT.out]
        exact HI.out

end Go.Proofs.YtbckjmbhipofaaaDoor
