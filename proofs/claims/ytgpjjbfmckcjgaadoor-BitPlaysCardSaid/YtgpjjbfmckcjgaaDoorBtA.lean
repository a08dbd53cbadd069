/-
  The line over two wires: how it lies in memory, and what stores do to it; the first frame of a wire.
  Conditions: a line as New made it.
-/
import Derived.Test.YtgpjjbfmckcjgaaDoorBtMath
import Derived.Test.YtgpjjbfmckcjgaaDoorBtIns
import Derived.Test.YtgpjjbfmckcjgaaDoorAgg
import Derived.Test.YtgpjjbfmckcjgaaDoorAdopt
import Derived.Test.YtgpjjbfmckcjgaaDoorSame
namespace Go.Proofs.YtgpjjbfmckcjgaaDoor
open Go Go.RowKit

inductive BIx where
  | vals
  | got
  | forth
  | back
  deriving DecidableEq

def fcells : List (Nat × Int) → List Value
  | [] => []
  | f :: r => .int .i64 f.1 :: .int .i64 f.2 :: fcells r
theorem fcells_len : ∀ l, (fcells l).length = l.length * 2
  | [] => rfl
  | f :: r => by simp [fcells, fcells_len r]; omega
theorem fcells_one : ∀ l, ∀ u ∈ fcells l, u.oneCell' = true
  | [], u, h => by cases h
  | f :: r, u, h => by
    simp [fcells] at h
    rcases h with rfl | rfl | h
    · rfl
    · rfl
    · exact fcells_one r u h
theorem fcells_append : ∀ a b, fcells (a ++ b) = fcells a ++ fcells b
  | [], b => rfl
  | f :: r, b => by simp [fcells, fcells_append r b]

def zip0 (l : List Nat) : List (Nat × Int) := l.map fun b => (b, 0)

def BNet.rows (s : BNet) (V : BIx → Value) : BIx → Sl
  | .vals => ⟨3, 1, V .vals, s.vals.length, s.vals.map (.int .i64)⟩
  | .got => ⟨3, 1, V .got, s.got.length, s.got.map (.int .i64)⟩
  | .forth => ⟨69, 2, V .forth, s.forth.length, fcells s.forth⟩
  | .back => ⟨69, 2, V .back, s.back.length, fcells (zip0 s.back)⟩
def btop (s : BNet) (V : BIx → Value) : List Value := [V .vals, .int .i64 s.sent, V .got, V .forth, V .back]
def BAt (S : Nat → Prop) (w : World) (t : Nat) (s : BNet) (V : BIx → Value) (tag : Nat → Option (Option BIx)) : Prop := Mem S w t (btop s V) (s.rows V) tag
def BIn (S : Nat → Prop) (w : World) (t : Nat) (s : BNet) : Prop := ∃ V tag, BAt S w t s V tag

theorem BIn.keep {S : Nat → Prop} {w w1 : World} {t : Nat} {s : BNet} (h : BIn S w t s) (hc : Chg NoF w w1) : BIn S w1 t s := by
  obtain ⟨V, tag, h⟩ := h
  exact ⟨V, tag, h.more hc⟩
theorem BIn.mono {S S' : Nat → Prop} {w : World} {t : Nat} {s : BNet} (h : BIn S w t s) (hS : ∀ b, S' b → S b) : BIn S' w t s := by
  obtain ⟨V, tag, h⟩ := h
  exact ⟨V, tag, Mem.mono h hS⟩

theorem aggFrame : AggT Tryd.prog 69 2 := AggT.mk' szFrame Tryd.underlying69 rfl (by kernel_rfl)

set_option maxHeartbeats 4000000 in
set_option maxRecDepth 100000 in
/-- The first frame is taken off a wire. -/
theorem first_any {S : Nat → Prop} {w : World} {t : Nat} {top : List Value} {R : BIx → Sl} {tag : Nat → Option (Option BIx)} (h : Mem S w t top R tag) (k : Nat) (i : BIx) (hk : top[k]? = some (R i).v) (b : Nat) (x : Int) (r : List (Nat × Int))
    (hR : R i = ⟨69, 2, (R i).v, r.length + 1, fcells ((b, x) :: r)⟩) (hr : r.length ≤ 100) :
    Calls Tryd.prog 36 #[.pointer (some ⟨t, k, none⟩)] w fun e w' => e = .returned (.agg #[.int .i64 b, .int .i64 x]) ∧ (∃ v' tag', Mem S w' t (top.set k v') (upd R i ⟨69, 2, v', r.length, fcells r⟩) tag') ∧ Chg (fun k => ¬ S k) w w' := by
  have hn : (R i).n = r.length + 1 := by rw [hR]
  obtain ⟨g, cap, hv, hgb, hglt, hcap1, hcap2⟩ := h.val i (by omega)
  rw [hn] at hv hcap1
  have hcell : ∀ j, j < (r.length + 1) * 2 → w.cell? ⟨g, j, none⟩ = (fcells ((b, x) :: r))[j]? := fun j hj => by
    have := h.cell i hv j (by rw [hR]; exact hj)
    rw [this, hR]
  have hb0 : w.cell? ⟨g, 0, none⟩ = some (.int .i64 b) := hcell 0 (by omega)
  have hb1 : w.cell? ⟨g, 1, none⟩ = some (.int .i64 x) := hcell 1 (by omega)
  have hbr : Hid (∀ j u, (fcells r)[j]? = some u → w.cell? ⟨g, 2 + j, none⟩ = some u) := Lib.hid fun j u hj => by
    have hlt := (List.getElem?_eq_some_iff.1 hj).1
    rw [fcells_len] at hlt
    rw [hcell (2 + j) (by omega), Nat.add_comm]
    exact hj
  have ht : w.cell? ⟨t, k, none⟩ = some (.slice (some ⟨g, 0, none⟩) (r.length + 1) cap) := by rw [h.blk.cell, hk, hv]
  have hft := h.blk.frozen k
  have HM := Lib.hid h
  have HV := Lib.hid hv
  obtain ⟨n, HN⟩ : ∃ n, Hid (r.length = n) := ⟨_, Lib.hid rfl⟩
  rw [HN.out] at ht hcap1 hr
  have hc0 : ¬ cap = 0 := by omega
  have hz2 : (1 : Int) ≤ (n : Int) + 1 := by omega
  have htn : ((1 : Int)).toNat = 1 := rfl
  have htl : Hid (t < w.heap.size) := Lib.hid h.blk.lt
  have hA1 : Chg NoF w (w.alloc (.cells #[.int .i64 0, .int .i64 0] 69)) := (Chg.refl NoF w).alloc _
  have ht1 := hA1.cell_some ht (fun h => h)
  have hb01 := hA1.cell_some hb0 (fun h => h)
  have hb11 := hA1.cell_some hb1 (fun h => h)
  have HR := Lib.hid (RefW.start w [.int .i64 0, .int .i64 0] [.int .i64 0, .int .i64 0] 69 69)
  clear hcell hn hR hv hgb hglt h hk hA1
  by_cases hc1 : cap = 1
  all_goals
    have HCL : Hid (∀ w3, Chg NoF w w3 → Calls Tryd.prog 41 #[.slice (some (if cap = 1 then ⟨g, 0, none⟩ else ⟨g, 2, none⟩)) n (cap - 1)] w3 fun e w' => ∃ v', e = .returned v' ∧ w'.ownsRow w3.heap.size 69 2 v' n (fcells r) ∧ Chg NoF w3 w') := Lib.hid fun w3 hc3 => by
      by_cases hc1 : cap = 1
      · rw [if_pos hc1]
        exact cloneF_any w3 g 0 n (cap - 1) (fcells r) (by rw [fcells_len, HN.out]) (fun j u hj => by
          have hlt := (List.getElem?_eq_some_iff.1 hj).1
          rw [fcells_len, HN.out] at hlt; omega) (fcells_one r) (by omega)
      · rw [if_neg hc1]
        exact cloneF_any w3 g 2 n (cap - 1) (fcells r) (by rw [fcells_len, HN.out]) (fun j u hj => hc3.cell_some (hbr.out j u hj) (fun h => h)) (fcells_one r) (by omega)
    simp only [hc1, if_true, if_false] at HCL
    go_enter Tryd.func36, Tryd.ntmps36
    go_wp2_with (refine wpList_plain rfl (fun K hK => wp_storeT aggFrame _ _ rfl (w.heap.size + 1) [.int .i64 b, .int .i64 x] _ (by rfl) (by rfl) rfl HR.out.bR rfl rfl ?_); intro w3 hB3 hc3; have HR3 := Lib.hid (HR.out.store hB3 hc3); have ht3 := HR3.out.chg.cell_some ht (fun h => h); clear hB3 hc3 ht1 hb01 hb11; refine hK _ _ ?_; clear hK)
    refine (HCL.out w3 HR3.out.chg).mono ?_
    rintro e w4 ⟨v', rfl, hown4, hc4⟩
    have HOWN := Lib.hid hown4
    have HC4 := Lib.hid hc4
    obtain ⟨va, vc, rfl⟩ := owns_val hown4
    have ht4 := hc4.cell_some ht3 (fun h => h)
    have ft4 : w4.frozen? ⟨t, k, none⟩ = false := by rw [World.frozen?_of_block ((HR3.out.chg.trans hc4).block t htl.out (fun h => h))]; exact hft
    have HR4 := Lib.hid (HR3.out.no hc4)
    have HB5 : Hid (Blk (w4.setCell ⟨t, k, none⟩ (.slice va n vc)) (w.heap.size + 1) [.int .i64 b, .int .i64 x]) := Lib.hid (HR4.out.bR.keep (setCell_chg w4 ⟨t, k, none⟩ _) (fun e => by have := htl.out; have e : w.heap.size + 1 = t := e; omega))
    have HB6 : Hid (Blk (w4.setCell ⟨t, k, none⟩ (.slice va n vc)) w.heap.size [.int .i64 0, .int .i64 0]) := Lib.hid (HR4.out.bB.keep (setCell_chg w4 ⟨t, k, none⟩ _) (fun e => by have := htl.out; have e : w.heap.size = t := e; omega))
    clear hown4 hc4 ht3 HCL
    go_wp2_with (first
      | (refine wpList_plain rfl (fun K hK => wp_loadT aggFrame _ rfl (w.heap.size + 1) [.int .i64 b, .int .i64 x] (by rfl) HB5.out rfl ?_); refine hK _ _ ?_; clear hK)
      | (refine wpList_plain rfl (fun K hK => wp_storeT aggFrame _ _ rfl w.heap.size [.int .i64 b, .int .i64 x] _ (by rfl) (by rfl) rfl HB6.out rfl rfl ?_); intro w7 hB7 hc7; have HB7 := Lib.hid hB7; have HC7 := Lib.hid hc7; clear hB7 hc7; refine hK _ _ ?_; clear hK))
    (try simp only [Exit.inBlock, Exit.then]); refine bodyPost_ret (results_cell1 aggFrame rfl _ _ _ _ (by rfl) HB7.out rfl) rfl ?_
    have hcA := HR3.out.chg
    obtain ⟨tag1, hM1⟩ := HM.out.adopt hcA (fun _ _ h => h.elim)
    have hsz := HR3.out.bR.lt
    have hM2 := hM1.newRow i (w1 := w4) (HC4.out.ofNo) 69 2 (.slice va n vc) n (fcells r) (owns_zero HOWN.out) (fun b hb => .inr (HOWN.out.lt b hb).1)
    have hM3 := hM2.setTop k (.slice va n vc)
    have hM4 := hM3.keep HC7.out (fun b hb => by
      have hb : b = w.heap.size := hb
      subst hb
      exact (hM3.hS _ (.inr ⟨Nat.le_refl _, by omega⟩)).1)
    refine ⟨rfl, ⟨.slice va n vc, _, by rw [HN.out]; exact hM4.mono (fun b hb => .inl hb)⟩, ?_⟩
    exact (((hcA.trans HC4.out).ofNo (F := fun k => ¬ S k)).setCell (p := ⟨t, k, none⟩) (.inl HM.out.tNotS) (.slice va n vc)).trans2 HC7.out (fun i _ hi => .inr (by have hi : i = w.heap.size := hi; omega))

end Go.Proofs.YtgpjjbfmckcjgaaDoor
