/-
  The document's answers about the net of work and thanks: how one is made.
  Conditions: at most five nodes.
-/
import Derived.Test.YtbckjmbhipofaaaDoorCaR
namespace Go.Proofs.YtbckjmbhipofaaaDoor
open Go Go.RowKit

theorem zeros_ints (n : Nat) : (madeCells (Value.int .i64 0).cells (n * 1)).toList = (List.range n).map fun _ => Value.int .i64 0 := by
  rw [Nat.mul_one, List.map_const', List.length_range]; exact toList_madeCells_one _ _
theorem zeros_slices (n : Nat) : (madeCells (Value.slice none 0 0).cells (n * 1)).toList = (List.range n).map fun _ => Value.slice none 0 0 := by
  rw [Nat.mul_one, List.map_const', List.length_range]; exact toList_madeCells_one _ _

theorem calm_made (S : Nat → Prop) {w wz : World} {n nn gO gW X : Nat} (hnn : n * n = nn) (hc : Chg NoF w wz) (hO : wz.ownsRow 0 3 1 (.slice (some ⟨gO, 0, none⟩) n n) n (madeCells (Value.int .i64 0).cells (n * 1)).toList)
    (hW : wz.ownsRow 0 29 1 (.slice (some ⟨gW, 0, none⟩) nn nn) nn (madeCells (Value.slice none 0 0).cells (nn * 1)).toList) (hX : Blk wz X [.int .i64 (n : Int), .int .i64 1, .slice none 0 0, .slice (some ⟨gO, 0, none⟩) n n, .slice (some ⟨gW, 0, none⟩) nn nn, .int .i64 0, .bool false]) (hR : Blk wz w.heap.size [.int .i64 0, .int .i64 0, .slice none 0 0, .slice none 0 0, .slice none 0 0, .int .i64 0, .bool false])
    (h1 : w.heap.size < X) (h2 : w.heap.size < gO) (h3 : w.heap.size < gW) (h4 : gO ≠ X) (h5 : gW ≠ X) : Bx S w wz X w.heap.size [.int .i64 (n : Int), .int .i64 1, .slice none 0 0, .slice (some ⟨gO, 0, none⟩) n n, .slice (some ⟨gW, 0, none⟩) nn nn, .int .i64 0, .bool false] [.int .i64 0, .int .i64 0, .slice none 0 0, .slice none 0 0, .slice none 0 0, .int .i64 0, .bool false] [.i (n : Int), .i 1, .l [], .l (line n fun _ => 0), .r (flat n fun _ _ => []), .i 0, .b false] where
  ref := ⟨hc, by omega, hX, hR⟩
  fld := by
    subst hnn
    rw [zeros_ints] at hO
    rw [zeros_slices] at hW
    refine ⟨rfl, rfl, Rd.nil _ _, ?_, ?_, rfl, rfl, trivial⟩
    · have e : (line n fun _ => (0 : Int)).map (Value.int .i64) = (List.range n).map fun _ => Value.int .i64 0 := by unfold line; rw [List.map_map]; rfl
      rw [← e] at hO
      exact Rd.ofOwns (n := n) hO (fun b hb => by
        obtain rfl : gO = b := by simpa [Value.ownBlock] using hb
        exact .inr ⟨by omega, h4, by omega⟩)
    · exact Rd2.ofOwns (n := n * n) hW (by rw [flat_len]) (fun b hb => by
        obtain rfl : gW = b := by simpa [Value.ownBlock] using hb
        exact .inr ⟨by omega, h5, by omega⟩) (fun j hj => by
        rw [flat_len] at hj
        have e1 : (flat n fun _ _ => ([] : List Int)).getD j [] = [] := by simp [flat, List.getD, hj]
        rw [e1]
        exact ⟨.slice none 0 0, by simp [hj], Rd.nil _ _, by simp⟩)

/-- While the parents are told, one after the other. -/
structure NewW (w0 w1 w : World) (X k : Nat) (pa : Option Addr) (pc : Nat) (us : List Value) : Prop where
  chg : Chg (fun b => b = X ∨ w1.heap.size ≤ b) w1 w
  blk : Blk w X us
  row : w.ownsRow w1.heap.size 3 1 (.slice pa k pc) k (List.replicate k (.int .i64 (-1)))

theorem setB_one {n : Nat} (h : 0 < n) : setB (fun p => decide (p = 0)) n = 1 := by
  have h2 : ∀ m, setB (fun p => decide (p = 0)) (m + 1) = 1 := fun m => by
    induction m with
    | zero => rfl
    | succ m ih => unfold setB; rw [ih, if_neg (by simp)]
  obtain ⟨m, rfl⟩ : ∃ m, n = m + 1 := ⟨n - 1, by omega⟩
  exact h2 m

set_option maxHeartbeats 8000000 in
set_option maxRecDepth 100000 in
theorem newCalm_ref (S : Nat → Prop) (n : Nat) (h1 : 1 ≤ n) (h5 : n ≤ 5) (w : World) :
    Calls Tryd.prog 6 #[.int .i64 n] w fun e w' => ∃ v, e = .returned v ∧ AnsF S w (cf (CNet.init n)) v w' := by
  obtain ⟨i0, hi, hz0, hz1, hz2⟩ := info_parts infoInt
  obtain ⟨nn, HNN⟩ : ∃ nn, Hid (n * n = nn) := ⟨_, Lib.hid rfl⟩
  have hnn : nn ≤ 25 := by rw [← HNN.out]; exact Nat.mul_le_mul h5 h5
  have hw1 : IntKind.i64.wrap ((n : Int) * (n : Int)) = (nn : Int) := by rw [← Int.natCast_mul, HNN.out]; exact IntWalk.i64_in _ (by omega)
  have hw2 : wrap64 ((n : Int) * (n : Int)) = (nn : Int) := by rw [← Int.natCast_mul, HNN.out]; exact IntWalk.wrap64_in _ (by omega)
  go_enter Tryd.func6, Tryd.ntmps6
  go_upto_region 1 with fail
  have HB0 : Hid (Blk (w.alloc (.cells #[.int .i64 0, .int .i64 0, .slice none 0 0, .slice none 0 0, .slice none 0 0, .int .i64 0, .bool false] 31)) w.heap.size [.int .i64 0, .int .i64 0, .slice none 0 0, .slice none 0 0, .slice none 0 0, .int .i64 0, .bool false]) := Lib.hid (Blk.alloc w [.int .i64 0, .int .i64 0, .slice none 0 0, .slice none 0 0, .slice none 0 0, .int .i64 0, .bool false] 31)
  have HC0 : Hid (Chg NoF w (w.alloc (.cells #[.int .i64 0, .int .i64 0, .slice none 0 0, .slice none 0 0, .slice none 0 0, .int .i64 0, .bool false] 31))) := Lib.hid ((Chg.refl NoF w).alloc _)
  generalize w.alloc _ = wa at *
  have HSA : Hid (w.heap.size < wa.heap.size) := Lib.hid HB0.out.lt
  go_cut [3] (fun x wx => ∃ X, x = .pointer (some ⟨X, 0, none⟩) ∧ ∃ gO gW, Hid (Bx S w wx X w.heap.size [.int .i64 (n : Int), .int .i64 1, .slice none 0 0, .slice (some ⟨gO, 0, none⟩) n n, .slice (some ⟨gW, 0, none⟩) nn nn, .int .i64 0, .bool false] [.int .i64 0, .int .i64 0, .slice none 0 0, .slice none 0 0, .slice none 0 0, .int .i64 0, .bool false] [.i (n : Int), .i 1, .l [], .l (line n fun _ => 0), .r (flat n fun _ _ => []), .i 0, .b false]))
  case first =>
    refine wp_region_pl (Chg NoF wa) 9 (.q 0 (.q 1 (.q 3 (.q 4 (.q 5 (.b3 2 6 8 (.b2 6 8 (.q 7 (.l 8 (.l 9 .nil))) (.l 6 (.q 7 (.l 9 .nil)))) (.b2 2 8 (.q 7 (.l 8 (.l 9 .nil))) (.l 2 (.q 7 (.l 9 .nil)))) (.b2 2 6 (.l 6 (.q 7 (.l 9 .nil))) (.l 2 (.q 7 (.l 9 .nil)))))))))) mixed (by kernel_rfl) (Chg.refl _ wa).drew ?_
    have HC_w100 : Chg NoF wa wa.drew := (Chg.refl NoF wa).drew
    have hs_w100 : wa.drew.heap.size = wa.heap.size := rfl
    generalize wa.drew = w100 at *
    have HSQ := Lib.hid hs_w100
    clear hs_w100
    iterate 5 (refine wpPl_quiet (v := ?_) (by simp only [opAt, List.getElem?_cons_zero, List.getElem?_cons_succ, Option.getD_some]; rfl) (by rfl) (by exact fun _ _ _ h => h) (by intro w1 hS; clear hS; go_simp; with_reducible rfl) ?_; (simp only [Act.put, List.setIfInBounds_toArray, List.set_cons_zero, List.set_cons_succ]))
    refine wpPl_b3 (by simp only [opAt, List.getElem?_cons_zero, List.getElem?_cons_succ, Option.getD_some]; rfl) (by rfl) (by simp only [opAt, List.getElem?_cons_zero, List.getElem?_cons_succ, Option.getD_some]; rfl) (by rfl) (by simp only [opAt, List.getElem?_cons_zero, List.getElem?_cons_succ, Option.getD_some]; rfl) (by rfl) (fun K hK => ?_) (fun K hK => ?_) (fun K hK => ?_)
    · skip
      refine wp_make (P := Tryd.prog) 29 _ _ rfl 3 (.int .i64 0) 1 8 infoInt Tryd.underlying29 .i64 .i64 n (by rfl) (by rfl) (by omega) (by omega) ?_
      intro gO w101 hgO ownO hc_w101 _
      have HGO := Lib.hid hgO
      clear hgO
      have HC_w101 : Chg NoF wa w101 := HC_w100.trans hc_w101
      have hs_w101 := hc_w101.size
      refine hK _ _ (fun _ => HC_w101) ?_
      clear hK
      (try simp only [Act.put, List.setIfInBounds_toArray, List.set_cons_zero, List.set_cons_succ])
      refine wpPl_b2 (by simp only [opAt, List.getElem?_cons_zero, List.getElem?_cons_succ, Option.getD_some]; rfl) (by rfl) (by simp only [opAt, List.getElem?_cons_zero, List.getElem?_cons_succ, Option.getD_some]; rfl) (by rfl) (fun K hK => ?_) (fun K hK => ?_)
      · skip
        refine wp_make (P := Tryd.prog) 22 _ _ rfl 29 (.slice none 0 0) 1 24 infoSl Tryd.underlying22 .i64 .i64 nn (by rfl) (by rfl) (by omega) (by omega) ?_
        intro gW w102 hgW ownW hc_w102 _
        have HGW := Lib.hid hgW
        clear hgW
        have HC_w102 : Chg NoF wa w102 := HC_w101.trans hc_w102
        replace ownO := hc_w102.row ownO (fun _ _ hf => hf)
        have hs_w102 := hc_w102.size
        refine hK _ _ (fun _ => HC_w102) ?_
        clear hK
        (try simp only [Act.put, List.setIfInBounds_toArray, List.set_cons_zero, List.set_cons_succ])
        (refine wpPl_quiet (v := ?_) (by simp only [opAt, List.getElem?_cons_zero, List.getElem?_cons_succ, Option.getD_some]; rfl) (by rfl) (by exact fun _ _ _ h => h) (by intro w1 hS; clear hS; go_simp; with_reducible rfl) ?_; (simp only [Act.put, List.setIfInBounds_toArray, List.set_cons_zero, List.set_cons_succ]))
        refine wpPl_l (by simp only [opAt, List.getElem?_cons_zero, List.getElem?_cons_succ, Option.getD_some]; rfl) (by rfl) (fun K hK => ?_)
        go_simp
        have hX : Blk (w102.alloc (.cells #[.int .i64 0, .int .i64 0, .slice none 0 0, .slice none 0 0, .slice none 0 0, .int .i64 0, .bool false] 31)) w102.heap.size [.int .i64 0, .int .i64 0, .slice none 0 0, .slice none 0 0, .slice none 0 0, .int .i64 0, .bool false] := Blk.alloc w102 [.int .i64 0, .int .i64 0, .slice none 0 0, .slice none 0 0, .slice none 0 0, .int .i64 0, .bool false] 31
        have hc_w103 : Chg NoF w102 (w102.alloc (.cells #[.int .i64 0, .int .i64 0, .slice none 0 0, .slice none 0 0, .slice none 0 0, .int .i64 0, .bool false] 31)) := (Chg.refl NoF w102).alloc _
        obtain ⟨X, HXE⟩ : ∃ X, Hid (X = w102.heap.size) := ⟨_, Lib.hid rfl⟩
        rw [show w102.heap.size = X from HXE.out.symm] at hX
        rw [← HXE.out]
        have HC_w103 : Chg NoF wa (w102.alloc (.cells #[.int .i64 0, .int .i64 0, .slice none 0 0, .slice none 0 0, .slice none 0 0, .int .i64 0, .bool false] 31)) := HC_w102.trans hc_w103
        replace ownO := hc_w103.row ownO (fun _ _ hf => hf)
        replace ownW := hc_w103.row ownW (fun _ _ hf => hf)
        have hs_w103 : (w102.alloc (.cells #[.int .i64 0, .int .i64 0, .slice none 0 0, .slice none 0 0, .slice none 0 0, .int .i64 0, .bool false] 31)).heap.size = w102.heap.size + 1 := by simp
        refine hK _ _ (fun _ => HC_w103) ?_
        clear hK
        generalize (w102.alloc (.cells #[.int .i64 0, .int .i64 0, .slice none 0 0, .slice none 0 0, .slice none 0 0, .int .i64 0, .bool false] 31)) = w103 at *
        (try simp only [Act.put, List.setIfInBounds_toArray, List.set_cons_zero, List.set_cons_succ])
        refine wpPl_l (by simp only [opAt, List.getElem?_cons_zero, List.getElem?_cons_succ, Option.getD_some]; rfl) (by rfl) (fun K hK => ?_)
        refine wp_storeT aggCalm _ _ rfl X [.int .i64 (n : Int), .int .i64 1, .slice none 0 0, .slice (some ⟨gO, 0, none⟩) n n, .slice (some ⟨gW, 0, none⟩) nn nn, .int .i64 0, .bool false] [.int .i64 0, .int .i64 0, .slice none 0 0, .slice none 0 0, .slice none 0 0, .int .i64 0, .bool false] (by rfl) (by rfl) rfl hX rfl rfl ?_
        intro wz hBz hcz
        refine hK _ _ (fun h => absurd rfl h) ?_
        clear hK
        (try simp only [Act.put, List.setIfInBounds_toArray, List.set_cons_zero, List.set_cons_succ])
        refine wpPl_nil ?_
        have hsq := HSQ.out
        have hgo := HGO.out
        have hgw := HGW.out
        have hxe := HXE.out
        have hsa := HSA.out
        have hmade : Bx S w wz X w.heap.size [.int .i64 (n : Int), .int .i64 1, .slice none 0 0, .slice (some ⟨gO, 0, none⟩) n n, .slice (some ⟨gW, 0, none⟩) nn nn, .int .i64 0, .bool false] [.int .i64 0, .int .i64 0, .slice none 0 0, .slice none 0 0, .slice none 0 0, .int .i64 0, .bool false] [.i (n : Int), .i 1, .l [], .l (line n fun _ => 0), .r (flat n fun _ _ => []), .i 0, .b false] := calm_made S HNN.out ((HC0.out.trans HC_w103).trans2 hcz (fun i _ hi => .inr (by have hi : i = X := hi; omega))) (hcz.row ownO (fun b hb e => by obtain rfl : gO = b := (by simpa [Value.ownBlock] using hb); have e : gO = X := e; omega)) (hcz.row ownW (fun b hb e => by obtain rfl : gW = b := (by simpa [Value.ownBlock] using hb); have e : gW = X := e; omega)) hBz ((HB0.out.keep HC_w103 (fun hf => hf)).keep hcz (fun e => by have e : w.heap.size = X := e; omega)) (by omega) (by omega) (by omega) (by omega) (by omega)
        have HM := Lib.hid hmade
        clear hmade hBz hcz ownO ownW hX
        go_wp2_with fail
        go_meet
        case rel => exact ⟨X, rfl, gO, gW, HM⟩
      · skip
        go_simp
        have hX : Blk (w101.alloc (.cells #[.int .i64 0, .int .i64 0, .slice none 0 0, .slice none 0 0, .slice none 0 0, .int .i64 0, .bool false] 31)) w101.heap.size [.int .i64 0, .int .i64 0, .slice none 0 0, .slice none 0 0, .slice none 0 0, .int .i64 0, .bool false] := Blk.alloc w101 [.int .i64 0, .int .i64 0, .slice none 0 0, .slice none 0 0, .slice none 0 0, .int .i64 0, .bool false] 31
        have hc_w104 : Chg NoF w101 (w101.alloc (.cells #[.int .i64 0, .int .i64 0, .slice none 0 0, .slice none 0 0, .slice none 0 0, .int .i64 0, .bool false] 31)) := (Chg.refl NoF w101).alloc _
        obtain ⟨X, HXE⟩ : ∃ X, Hid (X = w101.heap.size) := ⟨_, Lib.hid rfl⟩
        rw [show w101.heap.size = X from HXE.out.symm] at hX
        rw [← HXE.out]
        have HC_w104 : Chg NoF wa (w101.alloc (.cells #[.int .i64 0, .int .i64 0, .slice none 0 0, .slice none 0 0, .slice none 0 0, .int .i64 0, .bool false] 31)) := HC_w101.trans hc_w104
        replace ownO := hc_w104.row ownO (fun _ _ hf => hf)
        have hs_w104 : (w101.alloc (.cells #[.int .i64 0, .int .i64 0, .slice none 0 0, .slice none 0 0, .slice none 0 0, .int .i64 0, .bool false] 31)).heap.size = w101.heap.size + 1 := by simp
        refine hK _ _ (fun _ => HC_w104) ?_
        clear hK
        generalize (w101.alloc (.cells #[.int .i64 0, .int .i64 0, .slice none 0 0, .slice none 0 0, .slice none 0 0, .int .i64 0, .bool false] 31)) = w104 at *
        (try simp only [Act.put, List.setIfInBounds_toArray, List.set_cons_zero, List.set_cons_succ])
        refine wpPl_l (by simp only [opAt, List.getElem?_cons_zero, List.getElem?_cons_succ, Option.getD_some]; rfl) (by rfl) (fun K hK => ?_)
        refine wp_make (P := Tryd.prog) 22 _ _ rfl 29 (.slice none 0 0) 1 24 infoSl Tryd.underlying22 .i64 .i64 nn (by rfl) (by rfl) (by omega) (by omega) ?_
        intro gW w105 hgW ownW hc_w105 _
        have HGW := Lib.hid hgW
        clear hgW
        have HC_w105 : Chg NoF wa w105 := HC_w104.trans hc_w105
        replace ownO := hc_w105.row ownO (fun _ _ hf => hf)
        replace hX := hX.keep hc_w105 (fun hf => hf)
        have hs_w105 := hc_w105.size
        refine hK _ _ (fun _ => HC_w105) ?_
        clear hK
        (try simp only [Act.put, List.setIfInBounds_toArray, List.set_cons_zero, List.set_cons_succ])
        (refine wpPl_quiet (v := ?_) (by simp only [opAt, List.getElem?_cons_zero, List.getElem?_cons_succ, Option.getD_some]; rfl) (by rfl) (by exact fun _ _ _ h => h) (by intro w1 hS; clear hS; go_simp; with_reducible rfl) ?_; (simp only [Act.put, List.setIfInBounds_toArray, List.set_cons_zero, List.set_cons_succ]))
        refine wpPl_l (by simp only [opAt, List.getElem?_cons_zero, List.getElem?_cons_succ, Option.getD_some]; rfl) (by rfl) (fun K hK => ?_)
        refine wp_storeT aggCalm _ _ rfl X [.int .i64 (n : Int), .int .i64 1, .slice none 0 0, .slice (some ⟨gO, 0, none⟩) n n, .slice (some ⟨gW, 0, none⟩) nn nn, .int .i64 0, .bool false] [.int .i64 0, .int .i64 0, .slice none 0 0, .slice none 0 0, .slice none 0 0, .int .i64 0, .bool false] (by rfl) (by rfl) rfl hX rfl rfl ?_
        intro wz hBz hcz
        refine hK _ _ (fun h => absurd rfl h) ?_
        clear hK
        (try simp only [Act.put, List.setIfInBounds_toArray, List.set_cons_zero, List.set_cons_succ])
        refine wpPl_nil ?_
        have hsq := HSQ.out
        have hgo := HGO.out
        have hgw := HGW.out
        have hxe := HXE.out
        have hsa := HSA.out
        have hmade : Bx S w wz X w.heap.size [.int .i64 (n : Int), .int .i64 1, .slice none 0 0, .slice (some ⟨gO, 0, none⟩) n n, .slice (some ⟨gW, 0, none⟩) nn nn, .int .i64 0, .bool false] [.int .i64 0, .int .i64 0, .slice none 0 0, .slice none 0 0, .slice none 0 0, .int .i64 0, .bool false] [.i (n : Int), .i 1, .l [], .l (line n fun _ => 0), .r (flat n fun _ _ => []), .i 0, .b false] := calm_made S HNN.out ((HC0.out.trans HC_w105).trans2 hcz (fun i _ hi => .inr (by have hi : i = X := hi; omega))) (hcz.row ownO (fun b hb e => by obtain rfl : gO = b := (by simpa [Value.ownBlock] using hb); have e : gO = X := e; omega)) (hcz.row ownW (fun b hb e => by obtain rfl : gW = b := (by simpa [Value.ownBlock] using hb); have e : gW = X := e; omega)) hBz ((HB0.out.keep HC_w105 (fun hf => hf)).keep hcz (fun e => by have e : w.heap.size = X := e; omega)) (by omega) (by omega) (by omega) (by omega) (by omega)
        have HM := Lib.hid hmade
        clear hmade hBz hcz ownO ownW hX
        go_wp2_with fail
        go_meet
        case rel => exact ⟨X, rfl, gO, gW, HM⟩
    · skip
      refine wp_make (P := Tryd.prog) 22 _ _ rfl 29 (.slice none 0 0) 1 24 infoSl Tryd.underlying22 .i64 .i64 nn (by rfl) (by rfl) (by omega) (by omega) ?_
      intro gW w106 hgW ownW hc_w106 _
      have HGW := Lib.hid hgW
      clear hgW
      have HC_w106 : Chg NoF wa w106 := HC_w100.trans hc_w106
      have hs_w106 := hc_w106.size
      refine hK _ _ (fun _ => HC_w106) ?_
      clear hK
      (try simp only [Act.put, List.setIfInBounds_toArray, List.set_cons_zero, List.set_cons_succ])
      refine wpPl_b2 (by simp only [opAt, List.getElem?_cons_zero, List.getElem?_cons_succ, Option.getD_some]; rfl) (by rfl) (by simp only [opAt, List.getElem?_cons_zero, List.getElem?_cons_succ, Option.getD_some]; rfl) (by rfl) (fun K hK => ?_) (fun K hK => ?_)
      · skip
        refine wp_make (P := Tryd.prog) 29 _ _ rfl 3 (.int .i64 0) 1 8 infoInt Tryd.underlying29 .i64 .i64 n (by rfl) (by rfl) (by omega) (by omega) ?_
        intro gO w107 hgO ownO hc_w107 _
        have HGO := Lib.hid hgO
        clear hgO
        have HC_w107 : Chg NoF wa w107 := HC_w106.trans hc_w107
        replace ownW := hc_w107.row ownW (fun _ _ hf => hf)
        have hs_w107 := hc_w107.size
        refine hK _ _ (fun _ => HC_w107) ?_
        clear hK
        (try simp only [Act.put, List.setIfInBounds_toArray, List.set_cons_zero, List.set_cons_succ])
        (refine wpPl_quiet (v := ?_) (by simp only [opAt, List.getElem?_cons_zero, List.getElem?_cons_succ, Option.getD_some]; rfl) (by rfl) (by exact fun _ _ _ h => h) (by intro w1 hS; clear hS; go_simp; with_reducible rfl) ?_; (simp only [Act.put, List.setIfInBounds_toArray, List.set_cons_zero, List.set_cons_succ]))
        refine wpPl_l (by simp only [opAt, List.getElem?_cons_zero, List.getElem?_cons_succ, Option.getD_some]; rfl) (by rfl) (fun K hK => ?_)
        go_simp
        have hX : Blk (w107.alloc (.cells #[.int .i64 0, .int .i64 0, .slice none 0 0, .slice none 0 0, .slice none 0 0, .int .i64 0, .bool false] 31)) w107.heap.size [.int .i64 0, .int .i64 0, .slice none 0 0, .slice none 0 0, .slice none 0 0, .int .i64 0, .bool false] := Blk.alloc w107 [.int .i64 0, .int .i64 0, .slice none 0 0, .slice none 0 0, .slice none 0 0, .int .i64 0, .bool false] 31
        have hc_w108 : Chg NoF w107 (w107.alloc (.cells #[.int .i64 0, .int .i64 0, .slice none 0 0, .slice none 0 0, .slice none 0 0, .int .i64 0, .bool false] 31)) := (Chg.refl NoF w107).alloc _
        obtain ⟨X, HXE⟩ : ∃ X, Hid (X = w107.heap.size) := ⟨_, Lib.hid rfl⟩
        rw [show w107.heap.size = X from HXE.out.symm] at hX
        rw [← HXE.out]
        have HC_w108 : Chg NoF wa (w107.alloc (.cells #[.int .i64 0, .int .i64 0, .slice none 0 0, .slice none 0 0, .slice none 0 0, .int .i64 0, .bool false] 31)) := HC_w107.trans hc_w108
        replace ownW := hc_w108.row ownW (fun _ _ hf => hf)
        replace ownO := hc_w108.row ownO (fun _ _ hf => hf)
        have hs_w108 : (w107.alloc (.cells #[.int .i64 0, .int .i64 0, .slice none 0 0, .slice none 0 0, .slice none 0 0, .int .i64 0, .bool false] 31)).heap.size = w107.heap.size + 1 := by simp
        refine hK _ _ (fun _ => HC_w108) ?_
        clear hK
        generalize (w107.alloc (.cells #[.int .i64 0, .int .i64 0, .slice none 0 0, .slice none 0 0, .slice none 0 0, .int .i64 0, .bool false] 31)) = w108 at *
        (try simp only [Act.put, List.setIfInBounds_toArray, List.set_cons_zero, List.set_cons_succ])
        refine wpPl_l (by simp only [opAt, List.getElem?_cons_zero, List.getElem?_cons_succ, Option.getD_some]; rfl) (by rfl) (fun K hK => ?_)
        refine wp_storeT aggCalm _ _ rfl X [.int .i64 (n : Int), .int .i64 1, .slice none 0 0, .slice (some ⟨gO, 0, none⟩) n n, .slice (some ⟨gW, 0, none⟩) nn nn, .int .i64 0, .bool false] [.int .i64 0, .int .i64 0, .slice none 0 0, .slice none 0 0, .slice none 0 0, .int .i64 0, .bool false] (by rfl) (by rfl) rfl hX rfl rfl ?_
        intro wz hBz hcz
        refine hK _ _ (fun h => absurd rfl h) ?_
        clear hK
        (try simp only [Act.put, List.setIfInBounds_toArray, List.set_cons_zero, List.set_cons_succ])
        refine wpPl_nil ?_
        have hsq := HSQ.out
        have hgo := HGO.out
        have hgw := HGW.out
        have hxe := HXE.out
        have hsa := HSA.out
        have hmade : Bx S w wz X w.heap.size [.int .i64 (n : Int), .int .i64 1, .slice none 0 0, .slice (some ⟨gO, 0, none⟩) n n, .slice (some ⟨gW, 0, none⟩) nn nn, .int .i64 0, .bool false] [.int .i64 0, .int .i64 0, .slice none 0 0, .slice none 0 0, .slice none 0 0, .int .i64 0, .bool false] [.i (n : Int), .i 1, .l [], .l (line n fun _ => 0), .r (flat n fun _ _ => []), .i 0, .b false] := calm_made S HNN.out ((HC0.out.trans HC_w108).trans2 hcz (fun i _ hi => .inr (by have hi : i = X := hi; omega))) (hcz.row ownO (fun b hb e => by obtain rfl : gO = b := (by simpa [Value.ownBlock] using hb); have e : gO = X := e; omega)) (hcz.row ownW (fun b hb e => by obtain rfl : gW = b := (by simpa [Value.ownBlock] using hb); have e : gW = X := e; omega)) hBz ((HB0.out.keep HC_w108 (fun hf => hf)).keep hcz (fun e => by have e : w.heap.size = X := e; omega)) (by omega) (by omega) (by omega) (by omega) (by omega)
        have HM := Lib.hid hmade
        clear hmade hBz hcz ownO ownW hX
        go_wp2_with fail
        go_meet
        case rel => exact ⟨X, rfl, gO, gW, HM⟩
      · skip
        go_simp
        have hX : Blk (w106.alloc (.cells #[.int .i64 0, .int .i64 0, .slice none 0 0, .slice none 0 0, .slice none 0 0, .int .i64 0, .bool false] 31)) w106.heap.size [.int .i64 0, .int .i64 0, .slice none 0 0, .slice none 0 0, .slice none 0 0, .int .i64 0, .bool false] := Blk.alloc w106 [.int .i64 0, .int .i64 0, .slice none 0 0, .slice none 0 0, .slice none 0 0, .int .i64 0, .bool false] 31
        have hc_w109 : Chg NoF w106 (w106.alloc (.cells #[.int .i64 0, .int .i64 0, .slice none 0 0, .slice none 0 0, .slice none 0 0, .int .i64 0, .bool false] 31)) := (Chg.refl NoF w106).alloc _
        obtain ⟨X, HXE⟩ : ∃ X, Hid (X = w106.heap.size) := ⟨_, Lib.hid rfl⟩
        rw [show w106.heap.size = X from HXE.out.symm] at hX
        rw [← HXE.out]
        have HC_w109 : Chg NoF wa (w106.alloc (.cells #[.int .i64 0, .int .i64 0, .slice none 0 0, .slice none 0 0, .slice none 0 0, .int .i64 0, .bool false] 31)) := HC_w106.trans hc_w109
        replace ownW := hc_w109.row ownW (fun _ _ hf => hf)
        have hs_w109 : (w106.alloc (.cells #[.int .i64 0, .int .i64 0, .slice none 0 0, .slice none 0 0, .slice none 0 0, .int .i64 0, .bool false] 31)).heap.size = w106.heap.size + 1 := by simp
        refine hK _ _ (fun _ => HC_w109) ?_
        clear hK
        generalize (w106.alloc (.cells #[.int .i64 0, .int .i64 0, .slice none 0 0, .slice none 0 0, .slice none 0 0, .int .i64 0, .bool false] 31)) = w109 at *
        (try simp only [Act.put, List.setIfInBounds_toArray, List.set_cons_zero, List.set_cons_succ])
        refine wpPl_l (by simp only [opAt, List.getElem?_cons_zero, List.getElem?_cons_succ, Option.getD_some]; rfl) (by rfl) (fun K hK => ?_)
        refine wp_make (P := Tryd.prog) 29 _ _ rfl 3 (.int .i64 0) 1 8 infoInt Tryd.underlying29 .i64 .i64 n (by rfl) (by rfl) (by omega) (by omega) ?_
        intro gO w110 hgO ownO hc_w110 _
        have HGO := Lib.hid hgO
        clear hgO
        have HC_w110 : Chg NoF wa w110 := HC_w109.trans hc_w110
        replace ownW := hc_w110.row ownW (fun _ _ hf => hf)
        replace hX := hX.keep hc_w110 (fun hf => hf)
        have hs_w110 := hc_w110.size
        refine hK _ _ (fun _ => HC_w110) ?_
        clear hK
        (try simp only [Act.put, List.setIfInBounds_toArray, List.set_cons_zero, List.set_cons_succ])
        (refine wpPl_quiet (v := ?_) (by simp only [opAt, List.getElem?_cons_zero, List.getElem?_cons_succ, Option.getD_some]; rfl) (by rfl) (by exact fun _ _ _ h => h) (by intro w1 hS; clear hS; go_simp; with_reducible rfl) ?_; (simp only [Act.put, List.setIfInBounds_toArray, List.set_cons_zero, List.set_cons_succ]))
        refine wpPl_l (by simp only [opAt, List.getElem?_cons_zero, List.getElem?_cons_succ, Option.getD_some]; rfl) (by rfl) (fun K hK => ?_)
        refine wp_storeT aggCalm _ _ rfl X [.int .i64 (n : Int), .int .i64 1, .slice none 0 0, .slice (some ⟨gO, 0, none⟩) n n, .slice (some ⟨gW, 0, none⟩) nn nn, .int .i64 0, .bool false] [.int .i64 0, .int .i64 0, .slice none 0 0, .slice none 0 0, .slice none 0 0, .int .i64 0, .bool false] (by rfl) (by rfl) rfl hX rfl rfl ?_
        intro wz hBz hcz
        refine hK _ _ (fun h => absurd rfl h) ?_
        clear hK
        (try simp only [Act.put, List.setIfInBounds_toArray, List.set_cons_zero, List.set_cons_succ])
        refine wpPl_nil ?_
        have hsq := HSQ.out
        have hgo := HGO.out
        have hgw := HGW.out
        have hxe := HXE.out
        have hsa := HSA.out
        have hmade : Bx S w wz X w.heap.size [.int .i64 (n : Int), .int .i64 1, .slice none 0 0, .slice (some ⟨gO, 0, none⟩) n n, .slice (some ⟨gW, 0, none⟩) nn nn, .int .i64 0, .bool false] [.int .i64 0, .int .i64 0, .slice none 0 0, .slice none 0 0, .slice none 0 0, .int .i64 0, .bool false] [.i (n : Int), .i 1, .l [], .l (line n fun _ => 0), .r (flat n fun _ _ => []), .i 0, .b false] := calm_made S HNN.out ((HC0.out.trans HC_w110).trans2 hcz (fun i _ hi => .inr (by have hi : i = X := hi; omega))) (hcz.row ownO (fun b hb e => by obtain rfl : gO = b := (by simpa [Value.ownBlock] using hb); have e : gO = X := e; omega)) (hcz.row ownW (fun b hb e => by obtain rfl : gW = b := (by simpa [Value.ownBlock] using hb); have e : gW = X := e; omega)) hBz ((HB0.out.keep HC_w110 (fun hf => hf)).keep hcz (fun e => by have e : w.heap.size = X := e; omega)) (by omega) (by omega) (by omega) (by omega) (by omega)
        have HM := Lib.hid hmade
        clear hmade hBz hcz ownO ownW hX
        go_wp2_with fail
        go_meet
        case rel => exact ⟨X, rfl, gO, gW, HM⟩
    · skip
      go_simp
      have hX : Blk (w100.alloc (.cells #[.int .i64 0, .int .i64 0, .slice none 0 0, .slice none 0 0, .slice none 0 0, .int .i64 0, .bool false] 31)) w100.heap.size [.int .i64 0, .int .i64 0, .slice none 0 0, .slice none 0 0, .slice none 0 0, .int .i64 0, .bool false] := Blk.alloc w100 [.int .i64 0, .int .i64 0, .slice none 0 0, .slice none 0 0, .slice none 0 0, .int .i64 0, .bool false] 31
      have hc_w111 : Chg NoF w100 (w100.alloc (.cells #[.int .i64 0, .int .i64 0, .slice none 0 0, .slice none 0 0, .slice none 0 0, .int .i64 0, .bool false] 31)) := (Chg.refl NoF w100).alloc _
      obtain ⟨X, HXE⟩ : ∃ X, Hid (X = w100.heap.size) := ⟨_, Lib.hid rfl⟩
      rw [show w100.heap.size = X from HXE.out.symm] at hX
      rw [← HXE.out]
      have HC_w111 : Chg NoF wa (w100.alloc (.cells #[.int .i64 0, .int .i64 0, .slice none 0 0, .slice none 0 0, .slice none 0 0, .int .i64 0, .bool false] 31)) := HC_w100.trans hc_w111
      have hs_w111 : (w100.alloc (.cells #[.int .i64 0, .int .i64 0, .slice none 0 0, .slice none 0 0, .slice none 0 0, .int .i64 0, .bool false] 31)).heap.size = w100.heap.size + 1 := by simp
      refine hK _ _ (fun _ => HC_w111) ?_
      clear hK
      generalize (w100.alloc (.cells #[.int .i64 0, .int .i64 0, .slice none 0 0, .slice none 0 0, .slice none 0 0, .int .i64 0, .bool false] 31)) = w111 at *
      (try simp only [Act.put, List.setIfInBounds_toArray, List.set_cons_zero, List.set_cons_succ])
      refine wpPl_b2 (by simp only [opAt, List.getElem?_cons_zero, List.getElem?_cons_succ, Option.getD_some]; rfl) (by rfl) (by simp only [opAt, List.getElem?_cons_zero, List.getElem?_cons_succ, Option.getD_some]; rfl) (by rfl) (fun K hK => ?_) (fun K hK => ?_)
      · skip
        refine wp_make (P := Tryd.prog) 29 _ _ rfl 3 (.int .i64 0) 1 8 infoInt Tryd.underlying29 .i64 .i64 n (by rfl) (by rfl) (by omega) (by omega) ?_
        intro gO w112 hgO ownO hc_w112 _
        have HGO := Lib.hid hgO
        clear hgO
        have HC_w112 : Chg NoF wa w112 := HC_w111.trans hc_w112
        replace hX := hX.keep hc_w112 (fun hf => hf)
        have hs_w112 := hc_w112.size
        refine hK _ _ (fun _ => HC_w112) ?_
        clear hK
        (try simp only [Act.put, List.setIfInBounds_toArray, List.set_cons_zero, List.set_cons_succ])
        refine wpPl_l (by simp only [opAt, List.getElem?_cons_zero, List.getElem?_cons_succ, Option.getD_some]; rfl) (by rfl) (fun K hK => ?_)
        refine wp_make (P := Tryd.prog) 22 _ _ rfl 29 (.slice none 0 0) 1 24 infoSl Tryd.underlying22 .i64 .i64 nn (by rfl) (by rfl) (by omega) (by omega) ?_
        intro gW w113 hgW ownW hc_w113 _
        have HGW := Lib.hid hgW
        clear hgW
        have HC_w113 : Chg NoF wa w113 := HC_w112.trans hc_w113
        replace hX := hX.keep hc_w113 (fun hf => hf)
        replace ownO := hc_w113.row ownO (fun _ _ hf => hf)
        have hs_w113 := hc_w113.size
        refine hK _ _ (fun _ => HC_w113) ?_
        clear hK
        (try simp only [Act.put, List.setIfInBounds_toArray, List.set_cons_zero, List.set_cons_succ])
        (refine wpPl_quiet (v := ?_) (by simp only [opAt, List.getElem?_cons_zero, List.getElem?_cons_succ, Option.getD_some]; rfl) (by rfl) (by exact fun _ _ _ h => h) (by intro w1 hS; clear hS; go_simp; with_reducible rfl) ?_; (simp only [Act.put, List.setIfInBounds_toArray, List.set_cons_zero, List.set_cons_succ]))
        refine wpPl_l (by simp only [opAt, List.getElem?_cons_zero, List.getElem?_cons_succ, Option.getD_some]; rfl) (by rfl) (fun K hK => ?_)
        refine wp_storeT aggCalm _ _ rfl X [.int .i64 (n : Int), .int .i64 1, .slice none 0 0, .slice (some ⟨gO, 0, none⟩) n n, .slice (some ⟨gW, 0, none⟩) nn nn, .int .i64 0, .bool false] [.int .i64 0, .int .i64 0, .slice none 0 0, .slice none 0 0, .slice none 0 0, .int .i64 0, .bool false] (by rfl) (by rfl) rfl hX rfl rfl ?_
        intro wz hBz hcz
        refine hK _ _ (fun h => absurd rfl h) ?_
        clear hK
        (try simp only [Act.put, List.setIfInBounds_toArray, List.set_cons_zero, List.set_cons_succ])
        refine wpPl_nil ?_
        have hsq := HSQ.out
        have hgo := HGO.out
        have hgw := HGW.out
        have hxe := HXE.out
        have hsa := HSA.out
        have hmade : Bx S w wz X w.heap.size [.int .i64 (n : Int), .int .i64 1, .slice none 0 0, .slice (some ⟨gO, 0, none⟩) n n, .slice (some ⟨gW, 0, none⟩) nn nn, .int .i64 0, .bool false] [.int .i64 0, .int .i64 0, .slice none 0 0, .slice none 0 0, .slice none 0 0, .int .i64 0, .bool false] [.i (n : Int), .i 1, .l [], .l (line n fun _ => 0), .r (flat n fun _ _ => []), .i 0, .b false] := calm_made S HNN.out ((HC0.out.trans HC_w113).trans2 hcz (fun i _ hi => .inr (by have hi : i = X := hi; omega))) (hcz.row ownO (fun b hb e => by obtain rfl : gO = b := (by simpa [Value.ownBlock] using hb); have e : gO = X := e; omega)) (hcz.row ownW (fun b hb e => by obtain rfl : gW = b := (by simpa [Value.ownBlock] using hb); have e : gW = X := e; omega)) hBz ((HB0.out.keep HC_w113 (fun hf => hf)).keep hcz (fun e => by have e : w.heap.size = X := e; omega)) (by omega) (by omega) (by omega) (by omega) (by omega)
        have HM := Lib.hid hmade
        clear hmade hBz hcz ownO ownW hX
        go_wp2_with fail
        go_meet
        case rel => exact ⟨X, rfl, gO, gW, HM⟩
      · skip
        refine wp_make (P := Tryd.prog) 22 _ _ rfl 29 (.slice none 0 0) 1 24 infoSl Tryd.underlying22 .i64 .i64 nn (by rfl) (by rfl) (by omega) (by omega) ?_
        intro gW w114 hgW ownW hc_w114 _
        have HGW := Lib.hid hgW
        clear hgW
        have HC_w114 : Chg NoF wa w114 := HC_w111.trans hc_w114
        replace hX := hX.keep hc_w114 (fun hf => hf)
        have hs_w114 := hc_w114.size
        refine hK _ _ (fun _ => HC_w114) ?_
        clear hK
        (try simp only [Act.put, List.setIfInBounds_toArray, List.set_cons_zero, List.set_cons_succ])
        refine wpPl_l (by simp only [opAt, List.getElem?_cons_zero, List.getElem?_cons_succ, Option.getD_some]; rfl) (by rfl) (fun K hK => ?_)
        refine wp_make (P := Tryd.prog) 29 _ _ rfl 3 (.int .i64 0) 1 8 infoInt Tryd.underlying29 .i64 .i64 n (by rfl) (by rfl) (by omega) (by omega) ?_
        intro gO w115 hgO ownO hc_w115 _
        have HGO := Lib.hid hgO
        clear hgO
        have HC_w115 : Chg NoF wa w115 := HC_w114.trans hc_w115
        replace hX := hX.keep hc_w115 (fun hf => hf)
        replace ownW := hc_w115.row ownW (fun _ _ hf => hf)
        have hs_w115 := hc_w115.size
        refine hK _ _ (fun _ => HC_w115) ?_
        clear hK
        (try simp only [Act.put, List.setIfInBounds_toArray, List.set_cons_zero, List.set_cons_succ])
        (refine wpPl_quiet (v := ?_) (by simp only [opAt, List.getElem?_cons_zero, List.getElem?_cons_succ, Option.getD_some]; rfl) (by rfl) (by exact fun _ _ _ h => h) (by intro w1 hS; clear hS; go_simp; with_reducible rfl) ?_; (simp only [Act.put, List.setIfInBounds_toArray, List.set_cons_zero, List.set_cons_succ]))
        refine wpPl_l (by simp only [opAt, List.getElem?_cons_zero, List.getElem?_cons_succ, Option.getD_some]; rfl) (by rfl) (fun K hK => ?_)
        refine wp_storeT aggCalm _ _ rfl X [.int .i64 (n : Int), .int .i64 1, .slice none 0 0, .slice (some ⟨gO, 0, none⟩) n n, .slice (some ⟨gW, 0, none⟩) nn nn, .int .i64 0, .bool false] [.int .i64 0, .int .i64 0, .slice none 0 0, .slice none 0 0, .slice none 0 0, .int .i64 0, .bool false] (by rfl) (by rfl) rfl hX rfl rfl ?_
        intro wz hBz hcz
        refine hK _ _ (fun h => absurd rfl h) ?_
        clear hK
        (try simp only [Act.put, List.setIfInBounds_toArray, List.set_cons_zero, List.set_cons_succ])
        refine wpPl_nil ?_
        have hsq := HSQ.out
        have hgo := HGO.out
        have hgw := HGW.out
        have hxe := HXE.out
        have hsa := HSA.out
        have hmade : Bx S w wz X w.heap.size [.int .i64 (n : Int), .int .i64 1, .slice none 0 0, .slice (some ⟨gO, 0, none⟩) n n, .slice (some ⟨gW, 0, none⟩) nn nn, .int .i64 0, .bool false] [.int .i64 0, .int .i64 0, .slice none 0 0, .slice none 0 0, .slice none 0 0, .int .i64 0, .bool false] [.i (n : Int), .i 1, .l [], .l (line n fun _ => 0), .r (flat n fun _ _ => []), .i 0, .b false] := calm_made S HNN.out ((HC0.out.trans HC_w115).trans2 hcz (fun i _ hi => .inr (by have hi : i = X := hi; omega))) (hcz.row ownO (fun b hb e => by obtain rfl : gO = b := (by simpa [Value.ownBlock] using hb); have e : gO = X := e; omega)) (hcz.row ownW (fun b hb e => by obtain rfl : gW = b := (by simpa [Value.ownBlock] using hb); have e : gW = X := e; omega)) hBz ((HB0.out.keep HC_w115 (fun hf => hf)).keep hcz (fun e => by have e : w.heap.size = X := e; omega)) (by omega) (by omega) (by omega) (by omega) (by omega)
        have HM := Lib.hid hmade
        clear hmade hBz hcz ownO ownW hX
        go_wp2_with fail
        go_meet
        case rel => exact ⟨X, rfl, gO, gW, HM⟩
  case rest =>
  obtain ⟨X, rfl, gO, gW, HB⟩ := hcut
  clear HB0 HC0 HSA hw1 hw2
  have HXL : Hid (X < wc.heap.size) := Lib.hid HB.out.ref.bB.lt
  have HXR : Hid (X ≠ w.heap.size) := Lib.hid HB.out.ref.lo.2.2
  go_wp2_with fail
  go_loopw [4] (fun i wr => ∃ k : Nat, k ≤ n ∧ i = .int .i64 k ∧ ∃ pa pc, Hid (NewW w wc wr X k pa pc [.int .i64 (n : Int), .int .i64 1, .slice pa k pc, .slice (some ⟨gO, 0, none⟩) n n, .slice (some ⟨gW, 0, none⟩) nn nn, .int .i64 0, .bool false])) (fun i _ => n - (intOf i).toNat)
  case atStart => exact ⟨0, Nat.zero_le _, rfl, none, 0, Lib.hid ⟨Chg.refl _ _, HB.out.ref.bB, World.ownsRow_nil _ _ _ _⟩⟩
  case round =>
    obtain ⟨k, hkn, rfl, pa, pc, HW⟩ := hrel
    by_cases hlt : k < n
    · have hk1 : (k : Int) < n := by omega
      have HKN : Hid (k + 1 ≤ n) := Lib.hid hlt
      have q2 : wr.cell? ⟨X, 2, none⟩ = some (.slice pa k pc) := HW.out.blk.cell 2
      have HRA : Hid ((wr.alloc (.cells #[.int .i64 (-1)] 3)).ownsRow wc.heap.size 3 1 (.slice pa k pc) k (List.replicate k (.int .i64 (-1)))) := Lib.hid (((Chg.refl NoF wr).alloc _).row HW.out.row (fun _ _ h => h))
      have HSZ : Hid (wc.heap.size ≤ wr.heap.size) := Lib.hid HW.out.chg.size
      go_wp2_with (at_builtin; refine wpList_append_lies _ rfl _ _ 29 rfl wc.heap.size 3 i0 (.int .i64 0) 1 8 Tryd.underlying29 hi hz0 hz1 hz2 rfl (by decide) (.slice pa k pc) k (List.replicate k (.int .i64 (-1))) rfl HRA.out ⟨wr.heap.size, 0, none⟩ 1 1 [.int .i64 (-1)] rfl rfl (World.news_of_block (cs := #[.int .i64 (-1)]) (t := 3) (fr := (0, 0)) (heap_alloc_new wr _)) (by simp [Value.oneCell']) (by omega) (by unfold maxLen; omega) (by omega) (by have := HSZ.out; simp; omega) _ rfl ?_; intro gP cP w2 hown hgrow hat hlt2; have HOW := Lib.hid hown; have HGW := Lib.hid hgrow; clear hown hgrow hat hlt2; have HBW : Hid (∀ b, (Value.slice pa k pc).ownBlock = some b → wc.heap.size ≤ b) := Lib.hid (fun b hb => (HRA.out.lt b hb).1); have HC2 : Hid (Chg (fun b => wc.heap.size ≤ b) wr w2) := Lib.hid (((Chg.refl (fun b => wc.heap.size ≤ b) wr).alloc _).grown HGW.out (fun b hb => .inl (HBW.out b hb))); have hbx : Blk w2 X _ := HW.out.blk.keep HC2.out (fun e => by have e : wc.heap.size ≤ X := e; have := HXL.out; omega); have s2 := hbx.cell 2; have z2 := hbx.frozen 2; have HBX := Lib.hid hbx; clear hbx)
      go_wp2
      have HW2 : Hid (NewW w wc (w2.setCell ⟨X, 2, none⟩ (.slice (some ⟨gP, 0, none⟩) (k + 1) cP)) X (k + 1) (some ⟨gP, 0, none⟩) cP [.int .i64 (n : Int), .int .i64 1, .slice (some ⟨gP, 0, none⟩) (k + 1) cP, .slice (some ⟨gO, 0, none⟩) n n, .slice (some ⟨gW, 0, none⟩) nn nn, .int .i64 0, .bool false]) := Lib.hid
        ⟨(HW.out.chg.trans (HC2.out.mono fun b _ h => .inr h)).setCell (.inl (.inl rfl)) _, HBX.out.set 2 _, by
          have h1 := HOW.out
          rw [show List.replicate k (Value.int .i64 (-1)) ++ [.int .i64 (-1)] = List.replicate (k + 1) (.int .i64 (-1)) by rw [List.replicate_succ']] at h1
          exact (setCell_chg w2 ⟨X, 2, none⟩ _).row h1 (fun b hb e => by have := (h1.lt b hb).1; have e : b = X := e; have := HXL.out; omega)⟩
      clear q2 s2 z2
      go_roundw
      case rel => exact ⟨k + 1, HKN.out, by go_num, _, _, HW2⟩
      case measure => have := HKN.out; simp [intOf]; omega
    · have hk1 : ¬ (k : Int) < n := by omega
      obtain rfl : k = n := by omega
      have HB3 : Hid (Bx S w wr X w.heap.size [.int .i64 (k : Int), .int .i64 1, .slice pa k pc, .slice (some ⟨gO, 0, none⟩) k k, .slice (some ⟨gW, 0, none⟩) nn nn, .int .i64 0, .bool false] [.int .i64 0, .int .i64 0, .slice none 0 0, .slice none 0 0, .slice none 0 0, .int .i64 0, .bool false] [.i (k : Int), .i 1, .l (List.replicate k (-1)), .l (line k fun _ => 0), .r (flat k fun _ _ => []), .i 0, .b false]) := Lib.hid (by
        have hlo := HB.out.ref.lo
        have hRl := HB.out.ref.bR.lt
        have hXl := HXL.out
        obtain ⟨_, _, _, f3, f4, _, _, _⟩ := HB.out.fld
        have hk : ∀ b, (In S w X w.heap.size b ∧ b < wc.heap.size) → ¬ (b = X ∨ wc.heap.size ≤ b) := fun b hb e => by
          have := HB.out.notB b hb.1
          omega
        refine ⟨⟨HB.out.ref.chg.trans2 HW.out.chg (fun i hi h => by omega), hlo, HW.out.blk, HB.out.ref.bR.keep HW.out.chg (fun e => by omega)⟩, rfl, rfl, ?_, ?_, ?_, rfl, rfl, trivial⟩
        · have h2 := HW.out.row
          rw [show List.replicate k (Value.int .i64 (-1)) = (List.replicate k (-1 : Int)).map (Value.int .i64) by rw [List.map_replicate]] at h2
          exact Rd.ofOwns (n := k) h2 (fun b hb => .inr (by have := (h2.lt b hb).1; omega))
        · exact ((RdF.mono (S' := fun b => In S w X w.heap.size b ∧ b < wc.heap.size) f3 (fun b hb h => ⟨h, hb⟩)).keep HW.out.chg hk).mono (fun b _ h => h.1)
        · exact ((RdF.mono (S' := fun b => In S w X w.heap.size b ∧ b < wc.heap.size) f4 (fun b hb h => ⟨h, hb⟩)).keep HW.out.chg hk).mono (fun b _ h => h.1))
      clear hlt HW HB
      have q2 : wr.cell? ⟨X, 2, none⟩ = some (.slice pa k pc) := HB3.out.ref.bB.cell 2
      go_wp2_with fail
      refine (set_ref (In S w X w.heap.size) _ (List.replicate k (-1)) 0 0 wr (HB3.out.at (f := .l (List.replicate k (-1))) 2 rfl rfl) (by rw [List.length_replicate]; omega) (by rw [List.length_replicate]; omega)).mono ?_
      rintro e w6 ⟨v6, rfl, hr6, hc6⟩
      obtain ⟨a6, c6, e6⟩ := hr6.val
      rw [List.length_set, List.length_replicate] at e6
      subst e6
      have HX6 := Lib.hid (HB3.out.told (f := .l _) hr6)
      have HN6 := Lib.hid (HB3.out.no hc6)
      have HCF : Hid ([Fd.i (k : Int), .i 1, .l ((List.replicate k (-1)).set 0 0), .l (line k fun _ => 0), .r (flat k fun _ _ => []), .i 0, .b false] = cf (CNet.init k)) := Lib.hid (by
        unfold cf
        have e1 : setB (CNet.init k).works (CNet.init k).n = 1 := setB_one h1
        have e2 : (List.replicate k (-1 : Int)).set 0 0 = line k (CNet.init k).parent := by
          apply List.ext_getElem
          · simp [line]
          · intro j h1 h2
            rw [List.getElem_set]
            simp only [line, List.getElem_map, List.getElem_range, CNet.init]
            by_cases e : j = 0
            · subst e; simp
            · rw [if_neg (fun e' => e e'.symm), if_neg e]; simp
        rw [e1, e2]; rfl)
      have HB6 : Hid (Bx S w (w6.setCell ⟨X, 2, none⟩ (.slice a6 k c6)) X w.heap.size [.int .i64 (k : Int), .int .i64 1, .slice a6 k c6, .slice (some ⟨gO, 0, none⟩) k k, .slice (some ⟨gW, 0, none⟩) nn nn, .int .i64 0, .bool false] [.int .i64 0, .int .i64 0, .slice none 0 0, .slice none 0 0, .slice none 0 0, .int .i64 0, .bool false] (cf (CNet.init k))) := Lib.hid (by
        have h1 := HN6.out.set 2 _ _ HX6.out
        rw [← HCF.out]
        exact h1)
      clear q2 hr6 hc6
      have q2 : w6.cell? ⟨X, 2, none⟩ = some (.slice pa k pc) := HN6.out.ref.bB.cell 2
      have z2 := HN6.out.ref.bB.frozen 2
      go_wp2_with (first | (refine wpList_plain rfl (fun K hK => wp_loadT aggCalm _ rfl X [.int .i64 (k : Int), .int .i64 1, .slice a6 k c6, .slice (some ⟨gO, 0, none⟩) k k, .slice (some ⟨gW, 0, none⟩) nn nn, .int .i64 0, .bool false] (by rfl) HB6.out.ref.bB rfl ?_); refine hK _ _ ?_; clear hK) | (refine wpList_plain rfl (fun K hK => wp_storeT aggCalm _ _ rfl w.heap.size [.int .i64 (k : Int), .int .i64 1, .slice a6 k c6, .slice (some ⟨gO, 0, none⟩) k k, .slice (some ⟨gW, 0, none⟩) nn nn, .int .i64 0, .bool false] _ (by rfl) (by rfl) rfl HB6.out.ref.bR rfl rfl ?_); intro wz hBz hcz; have HB7 := Lib.hid (HB6.out.setR hBz hcz); clear hBz hcz; refine hK _ _ ?_; clear hK))
      (try simp only [Exit.inBlock, Exit.then]); refine bodyPost_ret (results_cell1 aggCalm rfl _ _ _ _ (by rfl) HB7.out.ref.bR rfl) rfl ?_
      exact ⟨_, rfl, HB7.out.ans⟩

end Go.Proofs.YtbckjmbhipofaaaDoor
