/-
  The net that tells all the same in the same order: a new one.
  Conditions: none beyond those of each theorem.
-/
import Derived.Test.YtbindapfjghnaaaDoorSkF
namespace Go.Proofs.YtbindapfjghnaaaDoor
open Go Go.RowKit

set_option maxHeartbeats 400000 in
theorem hands_any (n : Int) (w : World) :
    Calls Tryd.prog 17 #[.int .i64 n] w fun e w' => e = .returned (errV (if inB n 1 4 = true then 0 else 1)) ∧ w = w' := by
  cases hin : inB n 1 4
  all_goals
    go_enter Tryd.func17, Tryd.ntmps17
    go_wp2_with fail
    refine (within_any _ _ _ _).mono ?_
    rintro e w' ⟨rfl, rfl⟩
    rw [hin]
    go_wp2
    go_ret
    exact ⟨rfl, rfl⟩

def NewPost (w : World) (n : Int) (e : Ending) (w' : World) : Prop :=
  Chg NoF w w' ∧ ((inB n 1 4 = false ∧ e = .returned (.tuple #[.pointer none, errV 1])) ∨ (∃ k : Nat, n = k ∧ 1 ≤ k ∧ k ≤ 4 ∧ ∃ t g, e = .returned (.tuple #[.pointer (some ⟨t, 0, none⟩), .nilIface]) ∧ SIn (fun b => b < w.heap.size) w' t g (SNet.init k)))

def initV (gC gG n : Nat) : Ix → Value
  | .clk => .slice (some ⟨gC, 0, none⟩) n n
  | .gots => .slice (some ⟨gG, 0, none⟩) n n
  | _ => .slice none 0 0

theorem zeros_ints (n : Nat) : (madeCells (Value.int .i64 0).cells (n * 1)).toList = (List.range n).map fun _ => Value.int .i64 0 := by
  rw [Nat.mul_one, List.map_const', List.length_range]; exact toList_madeCells_one _ _
theorem zeros_slices (n : Nat) : (madeCells (Value.slice none 0 0).cells (n * 1)).toList = (List.range n).map fun _ => Value.slice none 0 0 := by
  rw [Nat.mul_one, List.map_const', List.length_range]; exact toList_madeCells_one _ _
theorem infoSl : (Tryd.prog.info? 29).map (fun i => (i.zero, i.size, i.bytes)) = some (some (.slice none 0 0), 1, 24) := by kernel_rfl

theorem net_made (w w3 : World) (n gC gG : Nat) (e : TypeId) (h1 : w3.ownsRow 0 3 1 (.slice (some ⟨gC, 0, none⟩) n n) n ((List.range n).map fun _ => .int .i64 0)) (h2 : w3.ownsRow 0 29 1 (.slice (some ⟨gG, 0, none⟩) n n) n ((List.range n).map fun _ => .slice none 0 0))
    (b1 : w.heap.size ≤ gC ∧ gC < w3.heap.size) (b2 : w.heap.size ≤ gG ∧ gG < w3.heap.size) (hne : gC ≠ gG) :
    SIn (fun b => b < w.heap.size) (w3.alloc (.cells #[.slice (some ⟨gC, 0, none⟩) n n, .slice none 0 0, .slice (some ⟨gG, 0, none⟩) n n] e)) w3.heap.size gG (SNet.init n) := by
  refine ⟨initV gC gG n, fun b => if b = w3.heap.size then some none else if b = gC then some (some .clk) else if b = gG then some (some .gots) else none, ⟨n, rfl⟩, ?_⟩
  exact {
    hS := fun b hb => by
      have hb : b < w.heap.size := hb
      exact ⟨by rw [if_neg (by omega), if_neg (by omega), if_neg (by omega)], by simp; omega⟩
    ht := if_pos rfl
    blk := Blk.alloc w3 [.slice (some ⟨gC, 0, none⟩) n n, .slice none 0 0, .slice (some ⟨gG, 0, none⟩) n n] e
    row := fun i => by
      cases i with
      | clk => exact ((Chg.refl NoF w3).alloc _).row h1 (fun _ _ hf => hf)
      | ats => exact World.ownsRow_nil _ _ _ _
      | gots => exact ((Chg.refl NoF w3).alloc _).row h2 (fun _ _ hf => hf)
      | note k => rw [(SNet.init n).rowsA0 _ (show ¬ k < 0 by omega)]; exact World.ownsRow_nil _ _ _ _
      | got p =>
        by_cases hp : p < n
        · rw [(SNet.init n).rowsG _ (show p < (SNet.init n).n from hp)]; exact World.ownsRow_nil _ _ _ _
        · rw [(SNet.init n).rowsG0 _ (show ¬ p < (SNet.init n).n from hp)]; exact World.ownsRow_nil _ _ _ _
    tg := fun i b hb => by
      cases i with
      | clk =>
        obtain rfl : gC = b := by
          have hb : (Value.slice (some ⟨gC, 0, none⟩) n n).ownBlock = some b := hb
          simpa [Value.ownBlock] using hb
        rw [if_neg (by omega), if_pos rfl]
      | gots =>
        obtain rfl : gG = b := by
          have hb : (Value.slice (some ⟨gG, 0, none⟩) n n).ownBlock = some b := hb
          simpa [Value.ownBlock] using hb
        rw [if_neg (by omega), if_neg (by omega), if_pos rfl]
      | ats => cases hb
      | note k => rw [(SNet.init n).rowsA0 _ (show ¬ k < 0 by omega)] at hb; cases hb
      | got p =>
        by_cases hp : p < n
        · rw [(SNet.init n).rowsG _ (show p < (SNet.init n).n from hp)] at hb; cases hb
        · rw [(SNet.init n).rowsG0 _ (show ¬ p < (SNet.init n).n from hp)] at hb; cases hb }

set_option maxHeartbeats 8000000 in
set_option maxRecDepth 100000 in
theorem new_any (n : Int) (w : World) : Calls Tryd.prog 4 #[.int .i64 n] w (NewPost w n) := by
  cases hin : inB n 1 4 with
  | false =>
    go_enter Tryd.func4, Tryd.ntmps4
    go_wp2_with fail
    refine (hands_any n _).mono ?_
    rintro e w' ⟨rfl, rfl⟩
    rw [hin, show errV (if false = true then 0 else 1) = .iface 49 (.int .i64 1) from rfl]
    go_wp2
    go_ret2
    exact ⟨Chg.refl _ _, .inl ⟨hin, rfl⟩⟩
  | true =>
    have hb : 1 ≤ n ∧ n ≤ 4 := by simpa [inB] using hin
    obtain ⟨n, rfl⟩ := Int.eq_ofNat_of_zero_le (show 0 ≤ n by omega)
    have hn1 : 1 ≤ n := by omega
    have hn4 : n ≤ 4 := by omega
    have HIN := Lib.hid hin
    clear hin hb
    go_enter Tryd.func4, Tryd.ntmps4
    go_wp2_with fail
    refine (hands_any n _).mono ?_
    rintro e w' ⟨rfl, rfl⟩
    rw [HIN.out, show errV (if true = true then 0 else 1) = .nilIface from rfl]
    go_wp2_with fail
    refine wp_region_pl (Chg NoF w) 8 (.q 0 (.q 2 (.b2 1 3 (.l 3 (.q 4 (.l 5 (.q 6 (.q 7 .nil))))) (.l 1 (.q 4 (.l 5 (.q 6 (.q 7 .nil)))))))) mixed (by kernel_rfl) (Chg.refl _ w).drew ?_
    refine wpPl_quiet (v := ?_) (by simp only [opAt, List.getElem?_cons_zero, Option.getD_some]; rfl) (by rfl) (by exact fun _ _ _ h => h) (by intro w1 hS; clear hS; go_simp; with_reducible rfl) ?_; (simp only [Act.put, List.setIfInBounds_toArray, List.set_cons_zero, List.set_cons_succ])
    refine wpPl_quiet (v := ?_) (by simp only [opAt, List.getElem?_cons_zero, List.getElem?_cons_succ, Option.getD_some]; rfl) (by rfl) (by exact fun _ _ _ h => h) (by intro w1 hS; clear hS; go_simp; with_reducible rfl) ?_; (simp only [Act.put, List.setIfInBounds_toArray, List.set_cons_zero, List.set_cons_succ])
    refine wpPl_b2 (by simp only [opAt, List.getElem?_cons_zero, List.getElem?_cons_succ, Option.getD_some]; rfl) (by rfl) (by simp only [opAt, List.getElem?_cons_zero, List.getElem?_cons_succ, Option.getD_some]; rfl) (by rfl) (fun K hK => ?_) (fun K hK => ?_)
    · refine wp_make (P := Tryd.prog) 29 _ _ rfl 3 (.int .i64 0) 1 8 infoInt Tryd.underlying29 .i64 .i64 n (by rfl) (by rfl) (by omega) (by omega) ?_
      intro gC wa hgC own1 hc_wa hlt1
      have HC_wa : Chg NoF w wa := ((Chg.refl NoF w).drew).trans hc_wa
      refine hK _ _ (fun _ => HC_wa) ?_
      clear hK
      (try simp only [Act.put, List.setIfInBounds_toArray, List.set_cons_zero, List.set_cons_succ])
      refine wpPl_l (by simp only [opAt, List.getElem?_cons_zero, List.getElem?_cons_succ, Option.getD_some]; rfl) (by rfl) (fun K hK => ?_)
      refine wp_make (P := Tryd.prog) 22 _ _ rfl 29 (.slice none 0 0) 1 24 infoSl Tryd.underlying22 .i64 .i64 n (by rfl) (by rfl) (by omega) (by omega) ?_
      intro gG wb hgG own2 hc_wb hlt2
      have HC_wb : Chg NoF w wb := HC_wa.trans hc_wb
      refine hK _ _ (fun _ => HC_wb) ?_
      clear hK
      replace own1 := hc_wb.row own1 (fun _ _ hf => hf)
      rw [zeros_ints] at own1
      rw [zeros_slices] at own2
      have hs0 : w.drew.heap.size = w.heap.size := rfl
      have hs1 := hc_wb.size
      have HM := Lib.hid (net_made w wb n gC gG 48 own1 own2 (by omega) (by have := HC_wa.size; omega) (by omega))
      have HC4 := Lib.hid (HC_wb.alloc (.cells #[.slice (some ⟨gC, 0, none⟩) n n, .slice none 0 0, .slice (some ⟨gG, 0, none⟩) n n] 48))
      have HCB := Lib.hid HC_wb
      clear own1 own2 hs0 hs1 hgC hgG hlt1 hlt2 HC_wa HC_wb hc_wa hc_wb
      (try simp only [Act.put, List.setIfInBounds_toArray, List.set_cons_zero, List.set_cons_succ])
      refine wpPl_quiet (v := ?_) (by simp only [opAt, List.getElem?_cons_zero, List.getElem?_cons_succ, Option.getD_some]; rfl) (by rfl) (by exact fun _ _ _ h => h) (by intro w1 hS; clear hS; go_simp; with_reducible rfl) ?_; (simp only [Act.put, List.setIfInBounds_toArray, List.set_cons_zero, List.set_cons_succ])
      refine wpPl_l (by simp only [opAt, List.getElem?_cons_zero, List.getElem?_cons_succ, Option.getD_some]; rfl) (by rfl) (fun K hK => ?_)
      go_simp
      refine hK _ _ (fun _ => HCB.out.alloc _) ?_
      clear hK
      (try simp only [Act.put, List.setIfInBounds_toArray, List.set_cons_zero, List.set_cons_succ])
      iterate 2 (refine wpPl_quiet (v := ?_) (by simp only [opAt, List.getElem?_cons_zero, List.getElem?_cons_succ, Option.getD_some]; rfl) (by rfl) (by exact fun _ _ _ h => h) (by intro w1 hS; clear hS; go_simp; with_reducible rfl) ?_; (simp only [Act.put, List.setIfInBounds_toArray, List.set_cons_zero, List.set_cons_succ]))
      refine wpPl_nil ?_
      go_wp2
      go_ret2
      exact ⟨HC4.out, .inr ⟨n, rfl, hn1, hn4, _, _, rfl, HM.out⟩⟩
    · refine wp_make (P := Tryd.prog) 22 _ _ rfl 29 (.slice none 0 0) 1 24 infoSl Tryd.underlying22 .i64 .i64 n (by rfl) (by rfl) (by omega) (by omega) ?_
      intro gG wa hgG own2 hc_wa hlt2
      have HC_wa : Chg NoF w wa := ((Chg.refl NoF w).drew).trans hc_wa
      refine hK _ _ (fun _ => HC_wa) ?_
      clear hK
      (try simp only [Act.put, List.setIfInBounds_toArray, List.set_cons_zero, List.set_cons_succ])
      refine wpPl_l (by simp only [opAt, List.getElem?_cons_zero, List.getElem?_cons_succ, Option.getD_some]; rfl) (by rfl) (fun K hK => ?_)
      refine wp_make (P := Tryd.prog) 29 _ _ rfl 3 (.int .i64 0) 1 8 infoInt Tryd.underlying29 .i64 .i64 n (by rfl) (by rfl) (by omega) (by omega) ?_
      intro gC wb hgC own1 hc_wb hlt1
      have HC_wb : Chg NoF w wb := HC_wa.trans hc_wb
      refine hK _ _ (fun _ => HC_wb) ?_
      clear hK
      replace own2 := hc_wb.row own2 (fun _ _ hf => hf)
      rw [zeros_ints] at own1
      rw [zeros_slices] at own2
      have hs0 : w.drew.heap.size = w.heap.size := rfl
      have hs1 := hc_wb.size
      have HM := Lib.hid (net_made w wb n gC gG 48 own1 own2 (by have := HC_wa.size; omega) (by omega) (by omega))
      have HC4 := Lib.hid (HC_wb.alloc (.cells #[.slice (some ⟨gC, 0, none⟩) n n, .slice none 0 0, .slice (some ⟨gG, 0, none⟩) n n] 48))
      have HCB := Lib.hid HC_wb
      clear own1 own2 hs0 hs1 hgC hgG hlt1 hlt2 HC_wa HC_wb hc_wa hc_wb
      (try simp only [Act.put, List.setIfInBounds_toArray, List.set_cons_zero, List.set_cons_succ])
      refine wpPl_quiet (v := ?_) (by simp only [opAt, List.getElem?_cons_zero, List.getElem?_cons_succ, Option.getD_some]; rfl) (by rfl) (by exact fun _ _ _ h => h) (by intro w1 hS; clear hS; go_simp; with_reducible rfl) ?_; (simp only [Act.put, List.setIfInBounds_toArray, List.set_cons_zero, List.set_cons_succ])
      refine wpPl_l (by simp only [opAt, List.getElem?_cons_zero, List.getElem?_cons_succ, Option.getD_some]; rfl) (by rfl) (fun K hK => ?_)
      go_simp
      refine hK _ _ (fun _ => HCB.out.alloc _) ?_
      clear hK
      (try simp only [Act.put, List.setIfInBounds_toArray, List.set_cons_zero, List.set_cons_succ])
      iterate 2 (refine wpPl_quiet (v := ?_) (by simp only [opAt, List.getElem?_cons_zero, List.getElem?_cons_succ, Option.getD_some]; rfl) (by rfl) (by exact fun _ _ _ h => h) (by intro w1 hS; clear hS; go_simp; with_reducible rfl) ?_; (simp only [Act.put, List.setIfInBounds_toArray, List.set_cons_zero, List.set_cons_succ]))
      refine wpPl_nil ?_
      go_wp2
      go_ret2
      exact ⟨HC4.out, .inr ⟨n, rfl, hn1, hn4, _, _, rfl, HM.out⟩⟩

end Go.Proofs.YtbindapfjghnaaaDoor
