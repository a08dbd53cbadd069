/-
  The document's answers about the net that tells all of all: what each function computes.
  Conditions: the answer's lists are read, and tell the program's net.
-/
import Derived.Test.YtiakkhahohhpaaaDoorCsE
import Derived.Test.YtiakkhahohhpaaaDoorCsMath3
import Derived.Test.YtiakkhahohhpaaaDoorRef
import Derived.Test.YtiakkhahohhpaaaDoorAgg
namespace Go.Proofs.YtiakkhahohhpaaaDoor
open Go Go.RowKit

def CNet.byL (s : CNet) : List Int := (List.range s.m).map fun k => (s.bys k : Int)
def CNet.hadL (s : CNet) : List (List Int) := (List.range s.m).map fun k => (List.range s.n).map (s.vec k)
def CNet.gotLs (s : CNet) : List (List Int) := (List.range s.n).map s.got
/-- The document's net. -/
def RC (S : Nat → Prop) (w : World) (v : Value) (s : CNet) : Prop :=
  ∃ vb vh vg, v = .agg #[.int .i64 s.n, vb, vh, vg] ∧ Rd S w vb s.byL ∧ Rd2 S w vh s.hadL ∧ Rd2 S w vg s.gotLs

theorem RC.keep {S F : Nat → Prop} {w w1 : World} {v : Value} {s : CNet} (h : RC S w v s) (hc : Chg F w w1) (hn : ∀ b, S b → ¬ F b) : RC S w1 v s := by
  obtain ⟨vb, vh, vg, rfl, h1, h2, h3⟩ := h
  exact ⟨vb, vh, vg, rfl, h1.keep hc hn, h2.keep hc hn, h3.keep hc hn⟩
theorem RC.mono {S S' : Nat → Prop} {w : World} {v : Value} {s : CNet} (h : RC S w v s) (hS : ∀ b, b < w.heap.size → S b → S' b) : RC S' w v s := by
  obtain ⟨vb, vh, vg, rfl, h1, h2, h3⟩ := h
  exact ⟨vb, vh, vg, rfl, h1.mono hS, h2.mono hS, h3.mono hS⟩

theorem CNet.byL_len (s : CNet) : s.byL.length = s.m := by simp [CNet.byL]
theorem CNet.hadL_len (s : CNet) : s.hadL.length = s.m := by simp [CNet.hadL]
theorem CNet.gotLs_len (s : CNet) : s.gotLs.length = s.n := by simp [CNet.gotLs]
theorem CNet.byL_at (s : CNet) {k : Nat} (h : k < s.m) : s.byL.getD k 0 = (s.bys k : Int) := by simp [CNet.byL, List.getD, h]
theorem CNet.hadL_at (s : CNet) {k : Nat} (h : k < s.m) : s.hadL.getD k [] = (List.range s.n).map (s.vec k) := by simp [CNet.hadL, List.getD, h]
theorem CNet.gotLs_at (s : CNet) {p : Nat} (h : p < s.n) : s.gotLs.getD p [] = s.got p := by simp [CNet.gotLs, List.getD, h]

theorem aggCast : AggT Tryd.prog 41 4 := AggT.mk' (fun w => by kernel_rfl) Tryd.underlying41 rfl (by kernel_rfl)

set_option maxHeartbeats 1000000 in
set_option maxRecDepth 100000 in
theorem newCast_ref (S : Nat → Prop) (n : Nat) (h4 : n ≤ 4) (w : World) :
    Calls Tryd.prog 16 #[.int .i64 n] w fun e w' => ∃ v, e = .returned v ∧ RC (More S w) w' v (CNet.init n) ∧ Chg NoF w w' := by
  go_enter Tryd.func16, Tryd.ntmps16
  go_wp2_with (first
    | (at_make; refine wpList_plain rfl (fun K hK => wp_make (P := Tryd.prog) 22 _ _ rfl 29 (.slice none 0 0) 1 24 infoSl Tryd.underlying22 .i64 .i64 n (by rfl) (by rfl) (by omega) (by omega) ?_); intro gG w1 hgG own1 hc1 hlt1; have HGG := Lib.hid hgG; clear hgG; have HB1 := Lib.hid ((Blk.alloc w [.int .i64 0, .slice none 0 0, .slice none 0 0, .slice none 0 0] 41).keep hc1 (fun h => h)); refine hK _ _ ?_; clear hK)
    | (refine wpList_plain rfl (fun K hK => wp_storeT aggCast _ _ rfl w.heap.size [.int .i64 n, .slice none 0 0, .slice none 0 0, .slice (some ⟨gG, 0, none⟩) n n] _ (by rfl) (by rfl) rfl HB1.out rfl rfl ?_); intro w2 hB2 hcB; have HB2 := Lib.hid hB2; have HC2 := Lib.hid hcB; clear hB2 hcB; refine hK _ _ ?_; clear hK))
  (try simp only [Exit.inBlock, Exit.then]); refine bodyPost_ret (results_cell1 aggCast rfl _ _ w.heap.size _ (by rfl) HB2.out rfl) rfl ?_
  have hc := ((Chg.refl NoF w).alloc (.cells #[.int .i64 0, .slice none 0 0, .slice none 0 0, .slice none 0 0] 41)).trans hc1
  have hg := HGG.out
  simp at hg
  refine ⟨_, rfl, ⟨_, _, _, rfl, Rd.nil _ _, Rd2.nil _ _, ?_⟩, hc.trans2 HC2.out (fun i _ hi => .inr (by omega))⟩
  rw [zeros_slices] at own1
  refine Rd2.ofOwns (n := n) (HC2.out.row own1 (fun b hb e => by
    obtain rfl : gG = b := by simpa [Value.ownBlock] using hb
    omega)) (by rw [CNet.gotLs_len]; rfl) (fun b hb => .inr (by
    obtain rfl : gG = b := by simpa [Value.ownBlock] using hb
    omega)) (fun j hj => ?_)
  rw [CNet.gotLs_len] at hj
  have hj : j < n := hj
  rw [CNet.gotLs_at _ hj]
  exact ⟨.slice none 0 0, by simp [hj], Rd.nil _ _, by simp [CNet.init]⟩

def ilist (n : Nat) (f : Nat → Int) : List Value := (List.range n).map fun q => .int .i64 (f q)
theorem ilist_set (n : Nat) (f : Nat → Int) {q : Nat} (hq : q < n) (x : Int) : (ilist n f).set q (.int .i64 x) = ilist n (put1 f q x) := by
  unfold ilist
  rw [map_range_set _ _ _ _ hq]
  apply List.map_congr_left
  intro j _
  by_cases e : j = q
  · subst e; rw [if_pos rfl, put1_self]
  · rw [if_neg e, put1_ne _ _ e]
theorem ilist_get (n : Nat) (f : Nat → Int) {q : Nat} (hq : q < n) : (ilist n f)[q]? = some (.int .i64 (f q)) := by simp [ilist, hq]
theorem ilist_zero (n : Nat) : (madeCells (Value.int .i64 0).cells (n * 1)).toList = ilist n fun _ => 0 := by
  rw [zeros_ints]; rfl

theorem cntOf_le (s : CNet) (q : Nat) : ∀ l : List Int, s.cntOf q l ≤ l.length
  | [] => Int.le_refl _
  | x :: l => by
    have := cntOf_le s q l
    rw [List.length_cons]
    unfold CNet.cntOf
    split <;> omega

/-- While Many counts. -/
structure ManyW (w0 w : World) (gL n : Nat) (us : List Value) (f : Nat → Int) : Prop where
  chg : Chg NoF w0 w
  blk : Blk w w0.heap.size us
  row : w.ownsRow 0 3 1 (.slice (some ⟨gL, 0, none⟩) n n) n (ilist n f)
  lo : w0.heap.size < gL

theorem ManyW.no {w0 w w1 : World} {gL n : Nat} {us : List Value} {f : Nat → Int} (h : ManyW w0 w gL n us f) (hc : Chg NoF w w1) : ManyW w0 w1 gL n us f where
  chg := h.chg.trans hc
  blk := h.blk.keep hc fun h => h
  row := hc.row h.row fun _ _ h => h
  lo := h.lo
theorem ManyW.set {w0 w : World} {gL n : Nat} {us : List Value} {f : Nat → Int} (h : ManyW w0 w gL n us f) {q : Nat} (hq : q < n) (x : Int) : ManyW w0 (w.setCell ⟨gL, q, none⟩ (.int .i64 x)) gL n us (put1 f q x) where
  chg := h.chg.setCell (.inr (Nat.le_of_lt h.lo)) _
  blk := h.blk.keep (setCell_chg w ⟨gL, q, none⟩ _) fun e => by have := h.lo; have e : w0.heap.size = gL := e; omega
  row := by have := (h.row.stored q (.int .i64 x)).1; rw [ilist_set n f hq] at this; exact this
  lo := h.lo

set_option maxHeartbeats 8000000 in
set_option maxRecDepth 100000 in
theorem many_ref (S : Nat → Prop) (w : World) (v : Value) (s : CNet) (h : RC S w v s) (hs : CInv s s.m) (p : Nat) (hp : p < s.n) :
    Calls Tryd.prog 28 #[v, .int .i64 p] w fun e w' => ∃ v', e = .returned v' ∧ w'.ownsRow 0 3 1 v' s.n ((List.range s.n).map fun q => .int .i64 (s.had p q)) ∧ (∀ b, v'.ownBlock = some b → w.heap.size ≤ b) ∧ Chg NoF w w' := by
  obtain ⟨vb, vh, vg, rfl, hb, hh, hg⟩ := h
  have HBY := Lib.hid hb
  have HGO := Lib.hid hg
  obtain ⟨ba, bc, rfl⟩ := hb.val
  obtain ⟨ha, hc, rfl⟩ := hh.val
  obtain ⟨ga, gc, rfl⟩ := hg.val
  rw [s.byL_len, s.hadL_len, s.gotLs_len]
  rw [s.byL_len] at HBY
  rw [s.gotLs_len] at HGO
  have HINV := Lib.hid hs
  have HPS := Lib.hid hp
  obtain ⟨n, HN⟩ : ∃ n, Hid (s.n = n) := ⟨_, Lib.hid rfl⟩
  obtain ⟨m, HM⟩ : ∃ m, Hid (s.m = m) := ⟨_, Lib.hid rfl⟩
  have hn4 := hs.n4
  obtain ⟨gl, HGL⟩ : ∃ gl, Hid ((s.got p).length = gl) := ⟨_, Lib.hid rfl⟩
  have hg20 : gl ≤ 20 := by rw [← HGL.out]; have := hs.got_le hp; have := hs.m20; omega
  rw [HN.out] at HGO hp hn4 ⊢
  rw [HM.out] at HBY ⊢
  have hp1 : (p : Int) < n := by omega
  clear hb hh hg hs hp
  go_enter Tryd.func28, Tryd.ntmps28
  go_wp2_with (at_make; refine wpList_plain rfl (fun K hK => wp_make (P := Tryd.prog) 29 _ _ rfl 3 (.int .i64 0) 1 8 infoInt Tryd.underlying29 .i64 .i64 n (by rfl) (by rfl) (by omega) (by omega) ?_); intro gL w1 hgL own1 hc1 hlt1; have HGG := Lib.hid hgL; clear hgL; have HB1 := Lib.hid ((Blk.alloc w [.int .i64 n, .slice ba m bc, .slice ha m hc, .slice ga n gc] 41).keep hc1 (fun h => h)); refine hK _ _ ?_; clear hK)
  rw [ilist_zero] at own1
  have HW : Hid (∃ f, ManyW w w1 gL n [.int .i64 n, .slice ba m bc, .slice ha m hc, .slice ga n gc] f ∧ ∀ q, q < n → f q = s.cntOf q ((s.got p).take 0)) := Lib.hid ⟨_, ⟨((Chg.refl NoF w).alloc _).trans hc1, HB1.out, own1, by have := HGG.out; simp at this; omega⟩, fun q _ => by simp [CNet.cntOf]⟩
  clear own1 hc1 hlt1 HGG HB1
  go_loopw [6] (fun i wr => ∃ x : Nat, x ≤ gl ∧ i = .int .i64 x ∧ Hid (∃ f, ManyW w wr gL n [.int .i64 n, .slice ba m bc, .slice ha m hc, .slice ga n gc] f ∧ ∀ q, q < n → f q = s.cntOf q ((s.got p).take x))) (fun i _ => gl - (intOf i).toNat)
  case atStart => exact ⟨0, Nat.zero_le _, rfl, HW⟩
  case round =>
    clear HW
    obtain ⟨x, hxg, rfl, HX⟩ := hrel
    obtain ⟨f, HMW, HF⟩ : ∃ f, Hid (ManyW w wr gL n [.int .i64 n, .slice ba m bc, .slice ha m hc, .slice ga n gc] f) ∧ Hid (∀ q, q < n → f q = s.cntOf q ((s.got p).take x)) := by
      obtain ⟨f, h1, h2⟩ := HX.out
      exact ⟨f, Lib.hid h1, Lib.hid h2⟩
    clear HX
    have c1 : wr.cell? ⟨w.heap.size, 1, none⟩ = some (.slice ba m bc) := HMW.out.blk.cell 1
    have c3 : wr.cell? ⟨w.heap.size, 3, none⟩ = some (.slice ga n gc) := HMW.out.blk.cell 3
    obtain ⟨bG, oG, cG, u, ev, dr, hru, -⟩ := HGO.out.at HMW.out.chg (fun _ _ h => h) (j := p) (by rw [s.gotLs_len]; exact HPS.out)
    rw [s.gotLs_at HPS.out] at hru
    rw [s.gotLs_len, HN.out] at ev
    simp only [Value.slice.injEq] at ev
    obtain ⟨rfl, -, rfl⟩ := ev
    have HRU := Lib.hid hru
    obtain ⟨ua, uc, rfl⟩ := hru.val
    rw [HGL.out] at dr HRU
    clear hru
    by_cases hx : x < gl
    · have hx1 : (x : Int) < gl := by omega
      have HXG : Hid (x < gl) := Lib.hid hx
      obtain ⟨bU, oU, cU, eU, -, hcell⟩ := HRU.out.form (by rw [HGL.out]; omega)
      rw [HGL.out] at eU hcell
      simp only [Value.slice.injEq] at eU
      obtain ⟨rfl, -, rfl⟩ := eU
      have di := hcell x hx
      have hxs : x < (s.got p).length := by rw [HGL.out]; exact hx
      obtain ⟨z, ez, hzm⟩ := HINV.out.gotL p HPS.out ((s.got p).getD x 0) (by
        rw [List.getD, List.getElem?_eq_getElem hxs]; exact List.getElem_mem hxs)
      have HTS := Lib.hid (take_succ_at hxs)
      rw [ez] at di HTS
      obtain ⟨bB, oB, cB, eB, -, hcb⟩ := (HBY.out.keep HMW.out.chg (fun _ _ h => h)).form (by rw [s.byL_len]; omega)
      rw [s.byL_len, HM.out] at eB
      simp only [Value.slice.injEq] at eB
      obtain ⟨rfl, -, rfl⟩ := eB
      have db := hcb z (by rw [s.byL_len]; exact hzm)
      rw [s.byL_at hzm] at db
      have hyn := HINV.out.byl z hzm
      obtain ⟨y, HY⟩ : ∃ y, Hid (s.bys z = y) := ⟨_, Lib.hid rfl⟩
      rw [HY.out] at db hyn
      rw [HN.out] at hyn
      rw [HM.out] at hzm
      have hz1 : (z : Int) < m := by omega
      have hy1 : (y : Int) < n := by omega
      have HYN := Lib.hid hyn
      have ro := (HMW.out.row.cellAt y (by omega)).trans (ilist_get n f hyn)
      have fo := HMW.out.row.frozenAt y
      obtain ⟨fy, HFY⟩ : ∃ fy, Hid (f y = fy) := ⟨_, Lib.hid rfl⟩
      rw [HFY.out] at ro
      have hfb : 0 ≤ fy ∧ fy ≤ 20 := by
        rw [← HFY.out, HF.out y hyn]
        have h1 := cntOf_nn s y ((s.got p).take x)
        have h2 := cntOf_le s y ((s.got p).take x)
        rw [List.length_take] at h2
        omega
      have hwf : IntKind.i64.wrap (fy + 1) = fy + 1 := IntWalk.i64_in _ (by omega)
      have HM2 : Hid (ManyW w (wr.setCell ⟨gL, y, none⟩ (.int .i64 (fy + 1))).drew gL n [.int .i64 n, .slice (some ⟨bB, oB, none⟩) m bc, .slice ha m hc, .slice (some ⟨bG, oG, none⟩) n gc] (put1 f y (fy + 1))) := Lib.hid ((HMW.out.set hyn _).no ((Chg.refl NoF _).drew))
      have HF2 : Hid (∀ q, q < n → put1 f y (fy + 1) q = s.cntOf q ((s.got p).take (x + 1))) := Lib.hid fun q hq => by
        rw [HTS.out, cntOf_append, CNet.cntOf, CNet.cntOf, Int.toNat_natCast, HY.out]
        by_cases e : q = y
        · subst e; rw [put1_self, if_pos rfl, ← HF.out q hq, HFY.out]; omega
        · rw [put1_ne _ _ e, if_neg (fun h => e h.symm), HF.out q hq]; omega
      clear hcell hcb hxs ez hfb hzm hyn HF HMW hx HTS
      rename_i wr _
      go_wp2_with fail
      refine wp_region_plan (Chg NoF wr) 17 [(0,true),(1,true),(2,true),(3,true),(4,true),(5,true),(6,true),(7,true),(8,true),(9,true),(10,true),(11,true),(12,true),(13,true),(14,true),(15,true),(16,true),(17,false)] mixed (by kernel_rfl) (Chg.refl _ _).drew ?_
      simp only [planOps, List.map_cons, List.map_nil, List.getElem?_cons_zero, List.getElem?_cons_succ, Option.getD_some]
      generalize hops : List.toArray _ = ops
      iterate 17 (refine wpPlan_quiet (v := ?_) rfl (fun _ _ _ h => h) (by intro w1 hS; have s0 := hS.cell_some c1 (fun h => h); have s1 := hS.cell_some c3 (fun h => h); have s2 := hS.cell_some dr (fun h => h); have s3 := hS.cell_some di (fun h => h); have s4 := hS.cell_some db (fun h => h); have s5 := hS.cell_some ro (fun h => h); clear hS; go_simp; with_reducible rfl) ?_; (simp only [Act.put, List.setIfInBounds_toArray, List.set_cons_zero, List.set_cons_succ]))
      refine wpPlan_loud rfl (fun K hK => ?_)
      have ro2 : wr.drew.cell? ⟨gL, y, none⟩ = some (.int .i64 fy) := ro
      have fo2 : wr.drew.frozen? ⟨gL, y, none⟩ = false := fo
      go_simp
      refine hK _ _ (fun h => absurd rfl h) ?_
      clear hK K
      clear hops
      refine wpPlan_nil ?_
      clear c1 c3 dr di db ro fo ro2 fo2
      generalize (wr.setCell _ _).drew = w5 at *
      go_wp2
      go_roundw
      case rel => exact ⟨x + 1, HXG.out, by go_num, Lib.hid ⟨_, HM2.out, HF2.out⟩⟩
      case measure => have := HXG.out; simp [intOf]; omega
    · obtain rfl : x = gl := by omega
      have hx1 : ¬ (x : Int) < x := by omega
      clear hx hxg
      go_wp2
      go_ret
      refine ⟨_, rfl, ?_, fun b hb => ?_, HMW.out.chg⟩
      · have e : (List.range n).map (fun q => Value.int .i64 (s.had p q)) = ilist n f := by
          apply List.map_congr_left
          intro q hq
          have hq := List.mem_range.1 hq
          rw [HF.out q hq, HINV.out.cnt p q HPS.out (by rw [HN.out]; exact hq), ← HGL.out, List.take_length]
        rw [e]; exact HMW.out.row
      · obtain rfl : gL = b := by simpa [Value.ownBlock] using hb
        exact Nat.le_of_lt HMW.out.lo

/-! ### Send -/
theorem CNet.byL_send (s : CNet) {p : Nat} (h : s.sendErr p = 0) : (s.send p).byL = s.byL ++ [(p : Int)] := by
  unfold CNet.send
  rw [if_pos h]
  show (List.range (s.m + 1)).map (fun k => ((put1 s.bys s.m (p : Int).toNat k : Nat) : Int)) = (List.range s.m).map (fun k => (s.bys k : Int)) ++ [(p : Int)]
  rw [List.range_succ, List.map_append]
  congr 1
  · apply List.map_congr_left
    intro k hk
    rw [put1_ne _ _ (by have := List.mem_range.1 hk; omega)]
  · simp [put1_self]
theorem CNet.hadL_send (s : CNet) {p : Nat} (h : s.sendErr p = 0) : (s.send p).hadL = s.hadL ++ [(List.range s.n).map (s.had p)] := by
  unfold CNet.send
  rw [if_pos h]
  show (List.range (s.m + 1)).map (fun k => (List.range s.n).map (fun q => if k = s.m then s.had (p : Int).toNat q else s.vec k q)) = (List.range s.m).map (fun k => (List.range s.n).map (s.vec k)) ++ [(List.range s.n).map (s.had p)]
  rw [List.range_succ, List.map_append]
  congr 1
  · apply List.map_congr_left
    intro k hk
    apply List.map_congr_left
    intro q _
    rw [if_neg (by have := List.mem_range.1 hk; omega)]
  · simp
theorem CNet.gotLs_keep (s : CNet) {p : Nat} (hp : p < s.n) (k : Nat) : (s.keep p k).gotLs = s.gotLs.set p (s.got p ++ [(k : Int)]) := by
  show (List.range s.n).map (put1 s.got p (s.got p ++ [(k : Int)])) = ((List.range s.n).map s.got).set p _
  rw [map_range_set _ _ _ _ hp]
  apply List.map_congr_left
  intro j _
  by_cases e : j = p
  · subst e; rw [if_pos rfl, put1_self]
  · rw [if_neg e, put1_ne _ _ e]
theorem CNet.gotLs_send (s : CNet) {p : Nat} (hp : p < s.n) (h : s.sendErr p = 0) : (s.send p).gotLs = s.gotLs.set p (s.got p ++ [(s.m : Int)]) := by
  unfold CNet.send
  rw [if_pos h, Int.toNat_natCast]
  exact (s.note p).gotLs_keep hp s.m

end Go.Proofs.YtiakkhahohhpaaaDoor
