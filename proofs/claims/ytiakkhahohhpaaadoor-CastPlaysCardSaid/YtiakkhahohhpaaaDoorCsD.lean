/-
  The net that tells all of all: a new one.
  Conditions: none beyond those of each theorem.
-/
import Derived.Test.YtiakkhahohhpaaaDoorCsC
namespace Go.Proofs.YtiakkhahohhpaaaDoor
open Go Go.RowKit

set_option maxHeartbeats 400000 in
theorem hands_any (n : Int) (w : World) :
    Calls Tryd.prog 20 #[.int .i64 n] w fun e w' => e = .returned (errV (if inB n 1 4 = true then 0 else 1)) ∧ w = w' := by
  cases hin : inB n 1 4
  all_goals
    go_enter Tryd.func20, Tryd.ntmps20
    go_wp2_with fail
    refine (within_any _ _ _ _).mono ?_
    rintro e w' ⟨rfl, rfl⟩
    rw [hin]
    go_wp2
    go_ret
    exact ⟨rfl, rfl⟩

def NewPost (w : World) (n : Int) (e : Ending) (w' : World) : Prop :=
  Chg NoF w w' ∧ ((inB n 1 4 = false ∧ e = .returned (.tuple #[.pointer none, errV 1])) ∨ (∃ k : Nat, n = k ∧ 1 ≤ k ∧ k ≤ 4 ∧ ∃ t, e = .returned (.tuple #[.pointer (some ⟨t, 0, none⟩), .nilIface]) ∧ CIn (fun b => b < w.heap.size) w' t (CNet.init k)))

def initV (gG n : Nat) : Ix → Value
  | .gots => .slice (some ⟨gG, 0, none⟩) n n
  | _ => .slice none 0 0

theorem zeros_ints (n : Nat) : (madeCells (Value.int .i64 0).cells (n * 1)).toList = (List.range n).map fun _ => Value.int .i64 0 := by
  rw [Nat.mul_one, List.map_const', List.length_range]; exact toList_madeCells_one _ _
theorem zeros_slices (n : Nat) : (madeCells (Value.slice none 0 0).cells (n * 1)).toList = (List.range n).map fun _ => Value.slice none 0 0 := by
  rw [Nat.mul_one, List.map_const', List.length_range]; exact toList_madeCells_one _ _
theorem infoSl : (Tryd.prog.info? 29).map (fun i => (i.zero, i.size, i.bytes)) = some (some (.slice none 0 0), 1, 24) := by kernel_rfl

theorem net_made (w w3 : World) (n gG : Nat) (e : TypeId) (h2 : w3.ownsRow 0 29 1 (.slice (some ⟨gG, 0, none⟩) n n) n ((List.range n).map fun _ => .slice none 0 0))
    (b2 : w.heap.size ≤ gG ∧ gG < w3.heap.size) :
    CAtH (fun b => b < w.heap.size) (w3.alloc (.cells #[.slice none 0 0, .slice none 0 0, .slice (some ⟨gG, 0, none⟩) n n] e)) w3.heap.size (CNet.init n) 0 (initV gG n) (fun b => if b = w3.heap.size then some none else if b = gG then some (some .gots) else none) := by
  have n0 : ∀ k, (CNet.init n).rows 0 (initV gG n) (.vec k) = Sl.none := fun k => by simp [CNet.rows, CNet.init]
  have n1 : ∀ k, (CNet.init n).rows 0 (initV gG n) (.had k) = Sl.none := fun k => by simp [CNet.rows]
  have n2 : ∀ p, (CNet.init n).rows 0 (initV gG n) (.got p) = Sl.none ∨ (CNet.init n).rows 0 (initV gG n) (.got p) = ⟨3, 1, .slice none 0 0, 0, []⟩ := fun p => by
    by_cases hp : p < n
    · right; exact if_pos hp
    · left; exact if_neg hp
  exact {
    hS := fun b hb => by
      have hb : b < w.heap.size := hb
      exact ⟨by rw [if_neg (by omega), if_neg (by omega)], by simp; omega⟩
    ht := if_pos rfl
    blk := Blk.alloc w3 [.slice none 0 0, .slice none 0 0, .slice (some ⟨gG, 0, none⟩) n n] e
    row := fun i => by
      cases i with
      | notes => exact World.ownsRow_nil _ _ _ _
      | hads => exact World.ownsRow_nil _ _ _ _
      | gots => exact ((Chg.refl NoF w3).alloc _).row h2 (fun _ _ hf => hf)
      | vec k => rw [n0]; exact World.ownsRow_nil _ _ _ _
      | had k => rw [n1]; exact World.ownsRow_nil _ _ _ _
      | got p => rcases n2 p with h | h <;> rw [h] <;> exact World.ownsRow_nil _ _ _ _
    tg := fun i b hb => by
      cases i with
      | gots =>
        obtain rfl : gG = b := by
          have hb : (Value.slice (some ⟨gG, 0, none⟩) n n).ownBlock = some b := hb
          simpa [Value.ownBlock] using hb
        rw [if_neg (by omega), if_pos rfl]
      | notes => cases hb
      | hads => cases hb
      | vec k => rw [n0] at hb; cases hb
      | had k => rw [n1] at hb; cases hb
      | got p => rcases n2 p with h | h <;> rw [h] at hb <;> cases hb }

/-- One node's list more. -/
def addH (V : Ix → Value) (m : Nat) (r v : Value) : Ix → Value
  | .notes => V .notes
  | .hads => v
  | .gots => V .gots
  | .vec k => V (.vec k)
  | .had p => if p = m then r else V (.had p)
  | .got p => V (.got p)

theorem CAtH.addHad {S : Nat → Prop} {w w1 w2 : World} {t : Nat} {s : CNet} {hn : Nat} {V : Ix → Value} {tag : Nat → Option (Option Ix)} (h : CAtH S w t s hn V tag) (hc0 : Chg NoF w w1) (r : Value) (hr : w1.ownsRow 0 3 1 r s.n ((List.range s.n).map fun q => .int .i64 (s.had hn q))) (hrb : ∀ b, r.ownBlock = some b → w.heap.size ≤ b)
    (hc : Chg (fun b => (V .hads).ownBlock = some b) w1 w2) (v : Value) (ho : w2.ownsRow 0 29 1 v (hn + 1) ((List.range hn).map (fun p => V (.had p)) ++ [r]))
    (hb : ∀ b, v.ownBlock = some b → (V .hads).ownBlock = some b ∨ w1.heap.size ≤ b) : ∃ tag', CAtH S (w2.setCell ⟨t, 1, none⟩ v) t s (hn + 1) (addH V hn r v) tag' := by
  have eR : s.rows hn V (.had hn) = Sl.none := if_neg (by omega)
  have h1 := Mem.newRow h (.had hn) (w1 := w1) (by rw [eR]; exact hc0.mono fun _ _ => False.elim) 3 1 r s.n _ hr (fun b hb => .inr (hrb b hb))
  have h2 := h1.newRow .hads (w1 := w2) (by rw [upd_ne _ _ (by simp)]; exact hc) 29 1 v (hn + 1) _ ho (by rw [upd_ne _ _ (by simp)]; exact hb)
  have h3 := h2.setTop 1 v
  refine ⟨_, h3.congr rfl fun i => ?_⟩
  cases i with
  | notes => rw [upd_ne _ _ (by simp), upd_ne _ _ (by simp)]; rfl
  | gots => rw [upd_ne _ _ (by simp), upd_ne _ _ (by simp)]; rfl
  | got p => rw [upd_ne _ _ (by simp), upd_ne _ _ (by simp)]; rfl
  | vec p => rw [upd_ne _ _ (by simp), upd_ne _ _ (by simp)]; rfl
  | hads =>
    rw [upd_self]
    show _ = (⟨_, _, v, _, (List.range (hn + 1)).map fun k => addH V hn r v (.had k)⟩ : Sl)
    rw [List.range_succ, List.map_append]
    congr 2
    · apply List.map_congr_left
      intro p hp
      have := List.mem_range.1 hp
      exact (if_neg (by omega)).symm
    · show [r] = [if hn = hn then r else V (.had hn)]
      rw [if_pos rfl]
  | had k =>
    by_cases e : k = hn
    · subst e
      rw [upd_ne _ _ (by simp), upd_self]
      refine Eq.trans ?_ (s.rowsH (k + 1) (addH V k r v) (show k < k + 1 by omega)).symm
      show _ = (⟨_, _, if k = k then r else V (.had k), s.n, _⟩ : Sl)
      rw [if_pos rfl]
    · rw [upd_ne _ _ (by simp), upd_ne _ _ (by simp [e])]
      show (if k < hn then _ else _) = (if k < hn + 1 then (⟨_, _, if k = hn then r else V (.had k), s.n, _⟩ : Sl) else _)
      by_cases hk : k < hn
      · rw [if_pos hk, if_pos (show k < hn + 1 by omega), if_neg e]
      · rw [if_neg hk, if_neg (show ¬ k < hn + 1 by omega)]

set_option maxHeartbeats 8000000 in
set_option maxRecDepth 100000 in
theorem new_any (n : Int) (w : World) : Calls Tryd.prog 8 #[.int .i64 n] w (NewPost w n) := by
  cases hin : inB n 1 4 with
  | false =>
    go_enter Tryd.func8, Tryd.ntmps8
    go_wp2_with fail
    refine (hands_any n _).mono ?_
    rintro e w' ⟨rfl, rfl⟩
    rw [hin, show errV (if false = true then 0 else 1) = .iface 54 (.int .i64 1) from rfl]
    go_wp2
    go_ret2
    exact ⟨Chg.refl _ _, .inl ⟨hin, rfl⟩⟩
  | true =>
    have hb : 1 ≤ n ∧ n ≤ 4 := by simpa [inB] using hin
    obtain ⟨n, rfl⟩ := Int.eq_ofNat_of_zero_le (show 0 ≤ n by omega)
    have hn1 : 1 ≤ n := by omega
    have hn4 : n ≤ 4 := by omega
    have HIN := Lib.hid hin
    clear hin hb
    go_enter Tryd.func8, Tryd.ntmps8
    go_wp2_with fail
    refine (hands_any n _).mono ?_
    rintro e w' ⟨rfl, rfl⟩
    rw [HIN.out, show errV (if true = true then 0 else 1) = .nilIface from rfl]
    go_wp2_with (at_make; refine wpList_plain rfl (fun K hK => wp_make (P := Tryd.prog) 22 _ _ rfl 29 (.slice none 0 0) 1 24 infoSl Tryd.underlying22 .i64 .i64 n (by rfl) (by rfl) (by omega) (by omega) ?_); intro gG w1 hgG own1 hc1 hlt1; have HGG := Lib.hid hgG; clear hgG; refine hK _ _ ?_; clear hK)
    rw [zeros_slices] at own1
    have hm0 := net_made w w1 n gG 51 own1 (by have := HGG.out; omega)
    have HREL : Hid (Chg (NewB w) w (w1.alloc (.cells #[.slice none 0 0, .slice none 0 0, .slice (some ⟨gG, 0, none⟩) n n] 51)) ∧ ∃ V tag, CAtH (fun b => b < w.heap.size) (w1.alloc (.cells #[.slice none 0 0, .slice none 0 0, .slice (some ⟨gG, 0, none⟩) n n] 51)) w1.heap.size (CNet.init n) 0 V tag) := Lib.hid ⟨(hc1.alloc _).ofNo, _, _, hm0⟩
    clear own1 hc1 hlt1 hm0
    go_wp2_with fail
    generalize w1.alloc _ = w2 at *
    generalize w1.heap.size = t at *
    go_loopw [16] (fun i wr => ∃ j : Nat, j ≤ n ∧ i = .int .i64 j ∧ Hid (Chg (NewB w) w wr ∧ ∃ V tag, CAtH (fun b => b < w.heap.size) wr t (CNet.init n) j V tag)) (fun i _ => n - (intOf i).toNat)
    case atStart => exact ⟨0, Nat.zero_le _, rfl, HREL⟩
    case round =>
      clear HREL
      obtain ⟨j, hjn, rfl, HR⟩ := hrel
      by_cases hj : j < n
      · have hj1 : (j : Int) < n := by omega
        have HJ : Hid (j + 1 ≤ n) := Lib.hid hj
        obtain ⟨hcw, V, tag, h⟩ := HR.out
        have HCW := Lib.hid hcw
        obtain ⟨aH, cH, vH⟩ := h.val0 .hads
        have vH : V .hads = .slice aH j cH := vH
        have c1 : wr.cell? ⟨t, 1, none⟩ = some (V .hads) := h.blk.cell 1
        have hrow : wr.ownsRow 0 29 1 (V .hads) j ((List.range j).map fun p => V (.had p)) := h.row .hads
        have hS : ∀ b, (V .hads).ownBlock = some b → ¬ b < w.heap.size ∧ b ≠ t := fun b hb => ⟨h.notS (i := .hads) hb, fun e => h.tne (i := .hads) (by subst e; exact hb)⟩
        have nt : ¬ (V .hads).ownBlock = some t := fun e => (hS t e).2 rfl
        have HTS := Lib.hid h.tNotS
        have f1 := h.blk.frozen 1
        have tlt := h.blk.lt
        have HADD := Lib.hid (fun (wa wb : World) (hc0 : Chg NoF wr wa) => CAtH.addHad (w2 := wb) h hc0)
        have HV2 : Hid (V .hads = .slice aH j cH) := Lib.hid vH
        rw [vH] at c1 hrow nt
        have HCA := Lib.hid (fun b (hb : (Value.slice aH j cH).ownBlock = some b) => (hS b (by rw [HV2.out]; exact hb)).1)
        clear h hcw vH hS hj hjn
        go_wp2_with fail
        refine wp_region_plan (Chg (fun b => (Value.slice aH j cH).ownBlock = some b) wr) 11 [(0,true),(1,true),(2,true),(3,true),(4,true),(5,true),(6,false),(7,false),(8,false),(9,true),(10,true),(11,false)] mixed (by kernel_rfl) (Chg.refl _ _).drew ?_
        simp only [planOps, List.map_cons, List.map_nil, List.getElem?_cons_zero, List.getElem?_cons_succ, Option.getD_some]
        generalize hops : List.toArray _ = ops
        iterate 6 (refine wpPlan_quiet (v := ?_) rfl (fun _ _ _ h => h) (by intro w1 hS; have s0 := hS.cell_some c1 nt; clear hS; go_simp; with_reducible rfl) ?_; (simp only [Act.put, List.setIfInBounds_toArray, List.set_cons_zero, List.set_cons_succ]))
        refine wpPlan_loud rfl (fun K hK => ?_)
        refine wp_make (P := Tryd.prog) 29 _ _ rfl 3 (.int .i64 0) 1 8 infoInt Tryd.underlying29 .i64 .i64 n (by rfl) (by rfl) (by omega) (by omega) ?_
        intro g3 w3 hg3 own3 hc3 hlt3
        have HG3 := Lib.hid hg3
        clear hg3
        have hc3' : Chg NoF wr w3 := ((Chg.refl NoF wr).drew).trans hc3
        refine hK _ _ (fun _ => hc3'.ofNo) ?_
        clear hK K
        (try simp only [Act.put, List.setIfInBounds_toArray, List.set_cons_zero, List.set_cons_succ])
        refine wpPlan_loud rfl (fun K hK => ?_)
        go_simp
        refine hK _ _ (fun _ => (hc3'.alloc _).ofNo) ?_
        clear hK K
        (try simp only [Act.put, List.setIfInBounds_toArray, List.set_cons_zero, List.set_cons_succ])
        refine wpPlan_loud rfl (fun K hK => ?_)
        refine wp_app _ _ 22 rfl 29 (.slice none 0 0) 1 24 infoSl Tryd.underlying22 rfl (by decide) (.slice aH j cH) j _ (by rfl) ((hc3'.alloc _).row hrow (fun _ _ hf => hf)) w3.heap.size 1 [.slice (some ⟨g3, 0, none⟩) n n] (by rfl) ⟨29, (0, 0), heap_alloc_new w3 _⟩ rfl (by simp [Value.oneCell']) (by omega) (by omega) ?_
        intro g4 cap4 w4 hown4 hc4 hat4 hlt4
        have hc5 : Chg (fun b => (Value.slice aH j cH).ownBlock = some b) wr w4 := ((hc3'.alloc _).ofNo).trans hc4
        refine hK _ _ (fun _ => hc5) ?_
        clear hK K
        (try simp only [Act.put, List.setIfInBounds_toArray, List.set_cons_zero, List.set_cons_succ])
        iterate 2 (refine wpPlan_quiet (v := ?_) rfl (fun _ _ _ h => h) (by intro w1 hS; have s0 := hS.cell_some c1 nt; clear hS; go_simp; with_reducible rfl) ?_; (simp only [Act.put, List.setIfInBounds_toArray, List.set_cons_zero, List.set_cons_succ]))
        refine wpPlan_loud rfl (fun K hK => ?_)
        have s2 := hc5.cell_some c1 nt
        have f2 : w4.frozen? ⟨t, 1, none⟩ = false := by rw [World.frozen?_of_block (hc5.block t tlt nt)]; exact f1
        go_simp
        refine hK _ _ (fun h => absurd rfl h) ?_
        clear hK K
        clear hops
        refine wpPlan_nil ?_
        rw [zeros_ints] at own3
        have hADD := HADD.out _ w4 (hc3'.alloc (.cells #[.slice (some ⟨g3, 0, none⟩) n n] 29)) (.slice (some ⟨g3, 0, none⟩) n n) (((Chg.refl NoF w3).alloc _).row own3 (fun _ _ hf => hf)) (fun b hb => by
          obtain rfl : g3 = b := by simpa [Value.ownBlock] using hb
          rw [HG3.out]; exact Nat.le_refl _) (by rw [HV2.out]; exact hc4) (.slice (some ⟨g4, 0, none⟩) (j + 1) cap4) hown4 (fun b hb => by rw [HV2.out]; exact hat4 b hb)
        have HR2 : Hid (Chg (NewB w) w (w4.setCell ⟨t, 1, none⟩ (.slice (some ⟨g4, 0, none⟩) (j + 1) cap4)) ∧ ∃ V tag, CAtH (fun b => b < w.heap.size) (w4.setCell ⟨t, 1, none⟩ (.slice (some ⟨g4, 0, none⟩) (j + 1) cap4)) t (CNet.init n) (j + 1) V tag) := Lib.hid (by
          obtain ⟨tag', hA⟩ := hADD
          exact ⟨(HCW.out.trans (hc5.mono fun b _ hb => HCA.out b hb)).setCell (.inl (show NewB w t from HTS.out)) _, _, tag', hA⟩)
        clear hADD hc5 hown4 hat4 hlt4 hc4 hc3' hc3 own3 hlt3 c1 f1 tlt nt hrow s2 f2 HV2 HADD
        generalize w4.setCell ⟨t, 1, none⟩ _ = w5 at *
        go_wp2
        go_roundw
        case rel => exact ⟨j + 1, HJ.out, by go_num, HR2⟩
        case measure => have := HJ.out; simp [intOf]; omega
      · obtain rfl : j = n := by omega
        have hj1 : ¬ (j : Int) < j := by omega
        have HEND : Hid (Chg NoF w wr ∧ CIn (fun b => b < w.heap.size) wr t (CNet.init j)) := Lib.hid ⟨HR.out.1.mono (fun k hk hn => absurd hk hn), HR.out.2⟩
        clear hj hjn HR
        go_wp2
        go_ret2
        exact ⟨HEND.out.1, .inr ⟨j, rfl, hn1, hn4, t, rfl, HEND.out.2⟩⟩

end Go.Proofs.YtiakkhahohhpaaaDoor
