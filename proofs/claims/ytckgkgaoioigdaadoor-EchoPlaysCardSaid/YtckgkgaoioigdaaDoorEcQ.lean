/-
  The document's wave that comes back: how one is made.
  Conditions: the net is right.
-/
import Derived.Test.YtckgkgaoioigdaaDoorEcO
import Derived.Test.YtckgkgaoioigdaaDoorRegion4
import Derived.Test.YtckgkgaoioigdaaDoorEcH
namespace Go.Proofs.YtckgkgaoioigdaaDoor
open Go Go.RowKit

theorem Rd.zeros {S : Nat → Prop} {w : World} {g n : Nat} (h : w.ownsRow 0 3 1 (.slice (some ⟨g, 0, none⟩) n n) n (madeCells (Value.int .i64 0).cells (n * 1)).toList) (hS : S g) : Rd S w (.slice (some ⟨g, 0, none⟩) n n) (line n fun _ => 0) := by
  rw [zeros_ints] at h
  have e : (line n fun _ => (0 : Int)).map (Value.int .i64) = (List.range n).map fun _ => Value.int .i64 0 := by unfold line; rw [List.map_map]; rfl
  rw [← e] at h
  exact Rd.ofOwns (n := n) h (fun b hb => by
    obtain rfl : g = b := by simpa [Value.ownBlock] using hb
    exact hS)

theorem wave_made (S : Nat → Prop) {w wz : World} {n nn gO gW X bN oN nc : Nat} {nr : Nat → Nat} (hnn : n * n = nn) (hc : Chg NoF w wz) (hN : Rd S w (.slice (some ⟨bN, oN, none⟩) n nc) (lineN n nr)) (hO : wz.ownsRow 0 3 1 (.slice (some ⟨gO, 0, none⟩) n n) n (madeCells (Value.int .i64 0).cells (n * 1)).toList)
    (hW : wz.ownsRow 0 3 1 (.slice (some ⟨gW, 0, none⟩) nn nn) nn (madeCells (Value.int .i64 0).cells (nn * 1)).toList) (hX : Blk wz X [.slice (some ⟨bN, oN, none⟩) n nc, .slice none 0 0, .slice (some ⟨gO, 0, none⟩) n n, .slice (some ⟨gW, 0, none⟩) nn nn, .int .i64 0, .bool false]) (hR : Blk wz w.heap.size [.slice none 0 0, .slice none 0 0, .slice none 0 0, .slice none 0 0, .int .i64 0, .bool false])
    (h1 : w.heap.size < X) (h2 : w.heap.size < gO) (h3 : w.heap.size < gW) (h4 : gO ≠ X) (h5 : gW ≠ X) : Bx S w wz X w.heap.size [.slice (some ⟨bN, oN, none⟩) n nc, .slice none 0 0, .slice (some ⟨gO, 0, none⟩) n n, .slice (some ⟨gW, 0, none⟩) nn nn, .int .i64 0, .bool false] [.slice none 0 0, .slice none 0 0, .slice none 0 0, .slice none 0 0, .int .i64 0, .bool false] [.l (lineN n nr), .l [], .l (lineN n fun _ => 0), .l (flat n fun _ _ => 0), .i 0, .b false] where
  ref := ⟨hc, by omega, hX, hR⟩
  fld := by
    subst hnn
    have hN2 := ((hN.mono (S' := fun b => S b ∧ b < w.heap.size) (fun b hb h => ⟨h, hb⟩)).keep hc (fun _ _ h => h)).mono (S' := In S w X w.heap.size) (fun b _ h => .inl h)
    exact ⟨hN2, Rd.nil _ _, Rd.zeros hO (.inr ⟨by omega, h4, by omega⟩), Rd.zeros hW (.inr ⟨by omega, h5, by omega⟩), rfl, rfl, trivial⟩

/-- While the parents are told, one after the other. -/
structure NewW (w1 w : World) (X k : Nat) (pa : Option Addr) (pc : Nat) (us : List Value) : Prop where
  chg : Chg (fun b => b = X ∨ w1.heap.size ≤ b) w1 w
  blk : Blk w X us
  row : w.ownsRow w1.heap.size 3 1 (.slice pa k pc) k (List.replicate k (.int .i64 (-1)))

theorem blank_bnd {n : Nat} {nr : Nat → Nat} (h : Net n nr) : Bnd (Wv.blank n nr) 0 where
  n1 := h.n1
  n5 := h.n5
  ways := fun a b _ _ => ⟨Int.le_refl _, Int.le_refl _⟩
  sent := ⟨Int.le_refl _, Int.le_refl _⟩
  near := fun a ha => Nat.lt_trans (Nat.lt_of_lt_of_le (h.lt a ha) (show 2 ^ n ≤ 2 ^ 5 from Nat.pow_le_pow_right (by omega) h.n5)) (by decide)

set_option maxHeartbeats 8000000 in
set_option maxRecDepth 100000 in
theorem newWave_ref (S : Nat → Prop) (v : Value) (n : Nat) (nr : Nat → Nat) (w : World) (hr : Rd S w v (lineN n nr)) (hnet : Net n nr) :
    Calls Tryd.prog 8 #[v] w fun e w' => ∃ u, e = .returned u ∧ AnsF S w (ef (Wv.init n nr)) u w' := by
  have h1 := hnet.n1
  have h5 := hnet.n5
  have HNET := Lib.hid hnet
  obtain ⟨i0, hi, hz0, hz1, hz2⟩ := info_parts infoInt
  obtain ⟨bN, oN, nc, eN, -, -⟩ := hr.form (by rw [lineN_len]; omega)
  rw [lineN_len] at eN
  obtain rfl := eN
  have HR := Lib.hid hr
  clear hr hnet
  obtain ⟨nn, HNN⟩ : ∃ nn, Hid (n * n = nn) := ⟨_, Lib.hid rfl⟩
  have hnn : nn ≤ 25 := by rw [← HNN.out]; exact Nat.mul_le_mul h5 h5
  have hw1 : IntKind.i64.wrap ((n : Int) * (n : Int)) = (nn : Int) := by rw [← Int.natCast_mul, HNN.out]; exact IntWalk.i64_in _ (by omega)
  have hw2 : wrap64 ((n : Int) * (n : Int)) = (nn : Int) := by rw [← Int.natCast_mul, HNN.out]; exact IntWalk.wrap64_in _ (by omega)
  go_enter Tryd.func8, Tryd.ntmps8
  go_upto_region 2 with fail
  have HB0 : Hid (Blk (w.alloc (.cells #[.slice none 0 0, .slice none 0 0, .slice none 0 0, .slice none 0 0, .int .i64 0, .bool false] 33)) w.heap.size [.slice none 0 0, .slice none 0 0, .slice none 0 0, .slice none 0 0, .int .i64 0, .bool false]) := Lib.hid (Blk.alloc w [.slice none 0 0, .slice none 0 0, .slice none 0 0, .slice none 0 0, .int .i64 0, .bool false] 33)
  have HC0 : Hid (Chg NoF w (w.alloc (.cells #[.slice none 0 0, .slice none 0 0, .slice none 0 0, .slice none 0 0, .int .i64 0, .bool false] 33))) := Lib.hid ((Chg.refl NoF w).alloc _)
  generalize w.alloc _ = wa at *
  have HSA : Hid (w.heap.size < wa.heap.size) := Lib.hid HB0.out.lt
  go_cut [4] (fun x wx => ∃ X, x = .pointer (some ⟨X, 0, none⟩) ∧ ∃ gO gW, Hid (Bx S w wx X w.heap.size [.slice (some ⟨bN, oN, none⟩) n nc, .slice none 0 0, .slice (some ⟨gO, 0, none⟩) n n, .slice (some ⟨gW, 0, none⟩) nn nn, .int .i64 0, .bool false] [.slice none 0 0, .slice none 0 0, .slice none 0 0, .slice none 0 0, .int .i64 0, .bool false] [.l (lineN n nr), .l [], .l (lineN n fun _ => 0), .l (flat n fun _ _ => 0), .i 0, .b false]))
  case first =>
    refine wp_region_pl (Chg NoF wa) 9 (.q 0 (.q 1 (.q 3 (.q 4 (.q 5 (.b3 2 6 8 (.b2 6 8 (.q 7 (.l 8 (.l 9 .nil))) (.l 6 (.q 7 (.l 9 .nil)))) (.b2 2 8 (.q 7 (.l 8 (.l 9 .nil))) (.l 2 (.q 7 (.l 9 .nil)))) (.b2 2 6 (.l 6 (.q 7 (.l 9 .nil))) (.l 2 (.q 7 (.l 9 .nil)))))))))) mixed (by kernel_rfl) (Chg.refl _ wa).drew ?_
    have HC_w100 : Chg NoF wa wa.drew := (Chg.refl NoF wa).drew
    have hs_w100 : wa.drew.heap.size = wa.heap.size := rfl
    generalize wa.drew = w100 at *
    have HSQ := Lib.hid hs_w100
    clear hs_w100
    iterate 5 (refine wpPl_quiet (v := ?_) (by simp only [opAt, List.getElem?_cons_zero, List.getElem?_cons_succ, Option.getD_some]; rfl) (by rfl) (by exact fun _ _ _ h => h) (by intro w1 hS; clear hS; go_simp; with_reducible rfl) ?_; (simp only [Act.put, List.setIfInBounds_toArray, List.set_cons_zero, List.set_cons_succ]))
    refine wpPl_b3 (by simp only [opAt, List.getElem?_cons_zero, List.getElem?_cons_succ, Option.getD_some]; rfl) (by rfl) (by simp only [opAt, List.getElem?_cons_zero, List.getElem?_cons_succ, Option.getD_some]; rfl) (by rfl) (by simp only [opAt, List.getElem?_cons_zero, List.getElem?_cons_succ, Option.getD_some]; rfl) (by rfl) (fun K hK => ?_) (fun K hK => ?_) (fun K hK => ?_)
    · skip
      refine wp_make (P := Tryd.prog) 22 _ _ rfl 3 (.int .i64 0) 1 8 infoInt Tryd.underlying22 .i64 .i64 n (by rfl) (by rfl) (by omega) (by omega) ?_
      intro gO w101 hgO ownO hc_w101 _
      have HGO := Lib.hid hgO
      clear hgO
      have HC_w101 : Chg NoF wa w101 := HC_w100.trans hc_w101
      have hs_w101 := hc_w101.size
      refine hK _ _ (fun _ => HC_w101) ?_
      clear hK
      (try simp only [Act.put, List.setIfInBounds_toArray, List.set_cons_zero, List.set_cons_succ])
      refine wpPl_b2 (by simp only [opAt, List.getElem?_cons_zero, List.getElem?_cons_succ, Option.getD_some]; rfl) (by rfl) (by simp only [opAt, List.getElem?_cons_zero, List.getElem?_cons_succ, Option.getD_some]; rfl) (by rfl) (fun K hK => ?_) (fun K hK => ?_)
      · skip
        refine wp_make (P := Tryd.prog) 22 _ _ rfl 3 (.int .i64 0) 1 8 infoInt Tryd.underlying22 .i64 .i64 nn (by rfl) (by rfl) (by omega) (by omega) ?_
        intro gW w102 hgW ownW hc_w102 _
        have HGW := Lib.hid hgW
        clear hgW
        have HC_w102 : Chg NoF wa w102 := HC_w101.trans hc_w102
        replace ownO := hc_w102.row ownO (fun _ _ hf => hf)
        have hs_w102 := hc_w102.size
        refine hK _ _ (fun _ => HC_w102) ?_
        clear hK
        (try simp only [Act.put, List.setIfInBounds_toArray, List.set_cons_zero, List.set_cons_succ])
        (refine wpPl_quiet (v := ?_) (by simp only [opAt, List.getElem?_cons_zero, List.getElem?_cons_succ, Option.getD_some]; rfl) (by rfl) (by exact fun _ _ _ h => h) (by intro w1 hS; clear hS; go_simp; with_reducible rfl) ?_; (simp only [Act.put, List.setIfInBounds_toArray, List.set_cons_zero, List.set_cons_succ]))
        refine wpPl_l (by simp only [opAt, List.getElem?_cons_zero, List.getElem?_cons_succ, Option.getD_some]; rfl) (by rfl) (fun K hK => ?_)
        go_simp
        have hX : Blk (w102.alloc (.cells #[.slice none 0 0, .slice none 0 0, .slice none 0 0, .slice none 0 0, .int .i64 0, .bool false] 33)) w102.heap.size [.slice none 0 0, .slice none 0 0, .slice none 0 0, .slice none 0 0, .int .i64 0, .bool false] := Blk.alloc w102 [.slice none 0 0, .slice none 0 0, .slice none 0 0, .slice none 0 0, .int .i64 0, .bool false] 33
        have hc_w103 : Chg NoF w102 (w102.alloc (.cells #[.slice none 0 0, .slice none 0 0, .slice none 0 0, .slice none 0 0, .int .i64 0, .bool false] 33)) := (Chg.refl NoF w102).alloc _
        obtain ⟨X, HXE⟩ : ∃ X, Hid (X = w102.heap.size) := ⟨_, Lib.hid rfl⟩
        rw [show w102.heap.size = X from HXE.out.symm] at hX
        rw [← HXE.out]
        have HC_w103 : Chg NoF wa (w102.alloc (.cells #[.slice none 0 0, .slice none 0 0, .slice none 0 0, .slice none 0 0, .int .i64 0, .bool false] 33)) := HC_w102.trans hc_w103
        replace ownO := hc_w103.row ownO (fun _ _ hf => hf)
        replace ownW := hc_w103.row ownW (fun _ _ hf => hf)
        have hs_w103 : (w102.alloc (.cells #[.slice none 0 0, .slice none 0 0, .slice none 0 0, .slice none 0 0, .int .i64 0, .bool false] 33)).heap.size = w102.heap.size + 1 := by simp
        refine hK _ _ (fun _ => HC_w103) ?_
        clear hK
        generalize (w102.alloc (.cells #[.slice none 0 0, .slice none 0 0, .slice none 0 0, .slice none 0 0, .int .i64 0, .bool false] 33)) = w103 at *
        (try simp only [Act.put, List.setIfInBounds_toArray, List.set_cons_zero, List.set_cons_succ])
        refine wpPl_l (by simp only [opAt, List.getElem?_cons_zero, List.getElem?_cons_succ, Option.getD_some]; rfl) (by rfl) (fun K hK => ?_)
        refine wp_storeT aggWave _ _ rfl X [.slice (some ⟨bN, oN, none⟩) n nc, .slice none 0 0, .slice (some ⟨gO, 0, none⟩) n n, .slice (some ⟨gW, 0, none⟩) nn nn, .int .i64 0, .bool false] [.slice none 0 0, .slice none 0 0, .slice none 0 0, .slice none 0 0, .int .i64 0, .bool false] (by rfl) (by rfl) rfl hX rfl rfl ?_
        intro wz hBz hcz
        refine hK _ _ (fun h => absurd rfl h) ?_
        clear hK
        (try simp only [Act.put, List.setIfInBounds_toArray, List.set_cons_zero, List.set_cons_succ])
        refine wpPl_nil ?_
        have hsq := HSQ.out
        have hgo := HGO.out
        have hgw := HGW.out
        have hxe := HXE.out
        have hsa := HSA.out
        have hmade : Bx S w wz X w.heap.size [.slice (some ⟨bN, oN, none⟩) n nc, .slice none 0 0, .slice (some ⟨gO, 0, none⟩) n n, .slice (some ⟨gW, 0, none⟩) nn nn, .int .i64 0, .bool false] [.slice none 0 0, .slice none 0 0, .slice none 0 0, .slice none 0 0, .int .i64 0, .bool false] [.l (lineN n nr), .l [], .l (lineN n fun _ => 0), .l (flat n fun _ _ => 0), .i 0, .b false] := wave_made S HNN.out ((HC0.out.trans HC_w103).trans2 hcz (fun i _ hi => .inr (by have hi : i = X := hi; omega))) HR.out (hcz.row ownO (fun b hb e => by obtain rfl : gO = b := (by simpa [Value.ownBlock] using hb); have e : gO = X := e; omega)) (hcz.row ownW (fun b hb e => by obtain rfl : gW = b := (by simpa [Value.ownBlock] using hb); have e : gW = X := e; omega)) hBz ((HB0.out.keep HC_w103 (fun hf => hf)).keep hcz (fun e => by have e : w.heap.size = X := e; omega)) (by omega) (by omega) (by omega) (by omega) (by omega)
        have HM := Lib.hid hmade
        clear hmade hBz hcz ownO ownW hX
        go_wp2_with fail
        go_meet
        case rel => exact ⟨X, rfl, gO, gW, HM⟩
      · skip
        go_simp
        have hX : Blk (w101.alloc (.cells #[.slice none 0 0, .slice none 0 0, .slice none 0 0, .slice none 0 0, .int .i64 0, .bool false] 33)) w101.heap.size [.slice none 0 0, .slice none 0 0, .slice none 0 0, .slice none 0 0, .int .i64 0, .bool false] := Blk.alloc w101 [.slice none 0 0, .slice none 0 0, .slice none 0 0, .slice none 0 0, .int .i64 0, .bool false] 33
        have hc_w104 : Chg NoF w101 (w101.alloc (.cells #[.slice none 0 0, .slice none 0 0, .slice none 0 0, .slice none 0 0, .int .i64 0, .bool false] 33)) := (Chg.refl NoF w101).alloc _
        obtain ⟨X, HXE⟩ : ∃ X, Hid (X = w101.heap.size) := ⟨_, Lib.hid rfl⟩
        rw [show w101.heap.size = X from HXE.out.symm] at hX
        rw [← HXE.out]
        have HC_w104 : Chg NoF wa (w101.alloc (.cells #[.slice none 0 0, .slice none 0 0, .slice none 0 0, .slice none 0 0, .int .i64 0, .bool false] 33)) := HC_w101.trans hc_w104
        replace ownO := hc_w104.row ownO (fun _ _ hf => hf)
        have hs_w104 : (w101.alloc (.cells #[.slice none 0 0, .slice none 0 0, .slice none 0 0, .slice none 0 0, .int .i64 0, .bool false] 33)).heap.size = w101.heap.size + 1 := by simp
        refine hK _ _ (fun _ => HC_w104) ?_
        clear hK
        generalize (w101.alloc (.cells #[.slice none 0 0, .slice none 0 0, .slice none 0 0, .slice none 0 0, .int .i64 0, .bool false] 33)) = w104 at *
        (try simp only [Act.put, List.setIfInBounds_toArray, List.set_cons_zero, List.set_cons_succ])
        refine wpPl_l (by simp only [opAt, List.getElem?_cons_zero, List.getElem?_cons_succ, Option.getD_some]; rfl) (by rfl) (fun K hK => ?_)
        refine wp_make (P := Tryd.prog) 22 _ _ rfl 3 (.int .i64 0) 1 8 infoInt Tryd.underlying22 .i64 .i64 nn (by rfl) (by rfl) (by omega) (by omega) ?_
        intro gW w105 hgW ownW hc_w105 _
        have HGW := Lib.hid hgW
        clear hgW
        have HC_w105 : Chg NoF wa w105 := HC_w104.trans hc_w105
        replace ownO := hc_w105.row ownO (fun _ _ hf => hf)
        replace hX := hX.keep hc_w105 (fun hf => hf)
        have hs_w105 := hc_w105.size
        refine hK _ _ (fun _ => HC_w105) ?_
        clear hK
        (try simp only [Act.put, List.setIfInBounds_toArray, List.set_cons_zero, List.set_cons_succ])
        (refine wpPl_quiet (v := ?_) (by simp only [opAt, List.getElem?_cons_zero, List.getElem?_cons_succ, Option.getD_some]; rfl) (by rfl) (by exact fun _ _ _ h => h) (by intro w1 hS; clear hS; go_simp; with_reducible rfl) ?_; (simp only [Act.put, List.setIfInBounds_toArray, List.set_cons_zero, List.set_cons_succ]))
        refine wpPl_l (by simp only [opAt, List.getElem?_cons_zero, List.getElem?_cons_succ, Option.getD_some]; rfl) (by rfl) (fun K hK => ?_)
        refine wp_storeT aggWave _ _ rfl X [.slice (some ⟨bN, oN, none⟩) n nc, .slice none 0 0, .slice (some ⟨gO, 0, none⟩) n n, .slice (some ⟨gW, 0, none⟩) nn nn, .int .i64 0, .bool false] [.slice none 0 0, .slice none 0 0, .slice none 0 0, .slice none 0 0, .int .i64 0, .bool false] (by rfl) (by rfl) rfl hX rfl rfl ?_
        intro wz hBz hcz
        refine hK _ _ (fun h => absurd rfl h) ?_
        clear hK
        (try simp only [Act.put, List.setIfInBounds_toArray, List.set_cons_zero, List.set_cons_succ])
        refine wpPl_nil ?_
        have hsq := HSQ.out
        have hgo := HGO.out
        have hgw := HGW.out
        have hxe := HXE.out
        have hsa := HSA.out
        have hmade : Bx S w wz X w.heap.size [.slice (some ⟨bN, oN, none⟩) n nc, .slice none 0 0, .slice (some ⟨gO, 0, none⟩) n n, .slice (some ⟨gW, 0, none⟩) nn nn, .int .i64 0, .bool false] [.slice none 0 0, .slice none 0 0, .slice none 0 0, .slice none 0 0, .int .i64 0, .bool false] [.l (lineN n nr), .l [], .l (lineN n fun _ => 0), .l (flat n fun _ _ => 0), .i 0, .b false] := wave_made S HNN.out ((HC0.out.trans HC_w105).trans2 hcz (fun i _ hi => .inr (by have hi : i = X := hi; omega))) HR.out (hcz.row ownO (fun b hb e => by obtain rfl : gO = b := (by simpa [Value.ownBlock] using hb); have e : gO = X := e; omega)) (hcz.row ownW (fun b hb e => by obtain rfl : gW = b := (by simpa [Value.ownBlock] using hb); have e : gW = X := e; omega)) hBz ((HB0.out.keep HC_w105 (fun hf => hf)).keep hcz (fun e => by have e : w.heap.size = X := e; omega)) (by omega) (by omega) (by omega) (by omega) (by omega)
        have HM := Lib.hid hmade
        clear hmade hBz hcz ownO ownW hX
        go_wp2_with fail
        go_meet
        case rel => exact ⟨X, rfl, gO, gW, HM⟩
    · skip
      refine wp_make (P := Tryd.prog) 22 _ _ rfl 3 (.int .i64 0) 1 8 infoInt Tryd.underlying22 .i64 .i64 nn (by rfl) (by rfl) (by omega) (by omega) ?_
      intro gW w106 hgW ownW hc_w106 _
      have HGW := Lib.hid hgW
      clear hgW
      have HC_w106 : Chg NoF wa w106 := HC_w100.trans hc_w106
      have hs_w106 := hc_w106.size
      refine hK _ _ (fun _ => HC_w106) ?_
      clear hK
      (try simp only [Act.put, List.setIfInBounds_toArray, List.set_cons_zero, List.set_cons_succ])
      refine wpPl_b2 (by simp only [opAt, List.getElem?_cons_zero, List.getElem?_cons_succ, Option.getD_some]; rfl) (by rfl) (by simp only [opAt, List.getElem?_cons_zero, List.getElem?_cons_succ, Option.getD_some]; rfl) (by rfl) (fun K hK => ?_) (fun K hK => ?_)
      · skip
        refine wp_make (P := Tryd.prog) 22 _ _ rfl 3 (.int .i64 0) 1 8 infoInt Tryd.underlying22 .i64 .i64 n (by rfl) (by rfl) (by omega) (by omega) ?_
        intro gO w107 hgO ownO hc_w107 _
        have HGO := Lib.hid hgO
        clear hgO
        have HC_w107 : Chg NoF wa w107 := HC_w106.trans hc_w107
        replace ownW := hc_w107.row ownW (fun _ _ hf => hf)
        have hs_w107 := hc_w107.size
        refine hK _ _ (fun _ => HC_w107) ?_
        clear hK
        (try simp only [Act.put, List.setIfInBounds_toArray, List.set_cons_zero, List.set_cons_succ])
        (refine wpPl_quiet (v := ?_) (by simp only [opAt, List.getElem?_cons_zero, List.getElem?_cons_succ, Option.getD_some]; rfl) (by rfl) (by exact fun _ _ _ h => h) (by intro w1 hS; clear hS; go_simp; with_reducible rfl) ?_; (simp only [Act.put, List.setIfInBounds_toArray, List.set_cons_zero, List.set_cons_succ]))
        refine wpPl_l (by simp only [opAt, List.getElem?_cons_zero, List.getElem?_cons_succ, Option.getD_some]; rfl) (by rfl) (fun K hK => ?_)
        go_simp
        have hX : Blk (w107.alloc (.cells #[.slice none 0 0, .slice none 0 0, .slice none 0 0, .slice none 0 0, .int .i64 0, .bool false] 33)) w107.heap.size [.slice none 0 0, .slice none 0 0, .slice none 0 0, .slice none 0 0, .int .i64 0, .bool false] := Blk.alloc w107 [.slice none 0 0, .slice none 0 0, .slice none 0 0, .slice none 0 0, .int .i64 0, .bool false] 33
        have hc_w108 : Chg NoF w107 (w107.alloc (.cells #[.slice none 0 0, .slice none 0 0, .slice none 0 0, .slice none 0 0, .int .i64 0, .bool false] 33)) := (Chg.refl NoF w107).alloc _
        obtain ⟨X, HXE⟩ : ∃ X, Hid (X = w107.heap.size) := ⟨_, Lib.hid rfl⟩
        rw [show w107.heap.size = X from HXE.out.symm] at hX
        rw [← HXE.out]
        have HC_w108 : Chg NoF wa (w107.alloc (.cells #[.slice none 0 0, .slice none 0 0, .slice none 0 0, .slice none 0 0, .int .i64 0, .bool false] 33)) := HC_w107.trans hc_w108
        replace ownW := hc_w108.row ownW (fun _ _ hf => hf)
        replace ownO := hc_w108.row ownO (fun _ _ hf => hf)
        have hs_w108 : (w107.alloc (.cells #[.slice none 0 0, .slice none 0 0, .slice none 0 0, .slice none 0 0, .int .i64 0, .bool false] 33)).heap.size = w107.heap.size + 1 := by simp
        refine hK _ _ (fun _ => HC_w108) ?_
        clear hK
        generalize (w107.alloc (.cells #[.slice none 0 0, .slice none 0 0, .slice none 0 0, .slice none 0 0, .int .i64 0, .bool false] 33)) = w108 at *
        (try simp only [Act.put, List.setIfInBounds_toArray, List.set_cons_zero, List.set_cons_succ])
        refine wpPl_l (by simp only [opAt, List.getElem?_cons_zero, List.getElem?_cons_succ, Option.getD_some]; rfl) (by rfl) (fun K hK => ?_)
        refine wp_storeT aggWave _ _ rfl X [.slice (some ⟨bN, oN, none⟩) n nc, .slice none 0 0, .slice (some ⟨gO, 0, none⟩) n n, .slice (some ⟨gW, 0, none⟩) nn nn, .int .i64 0, .bool false] [.slice none 0 0, .slice none 0 0, .slice none 0 0, .slice none 0 0, .int .i64 0, .bool false] (by rfl) (by rfl) rfl hX rfl rfl ?_
        intro wz hBz hcz
        refine hK _ _ (fun h => absurd rfl h) ?_
        clear hK
        (try simp only [Act.put, List.setIfInBounds_toArray, List.set_cons_zero, List.set_cons_succ])
        refine wpPl_nil ?_
        have hsq := HSQ.out
        have hgo := HGO.out
        have hgw := HGW.out
        have hxe := HXE.out
        have hsa := HSA.out
        have hmade : Bx S w wz X w.heap.size [.slice (some ⟨bN, oN, none⟩) n nc, .slice none 0 0, .slice (some ⟨gO, 0, none⟩) n n, .slice (some ⟨gW, 0, none⟩) nn nn, .int .i64 0, .bool false] [.slice none 0 0, .slice none 0 0, .slice none 0 0, .slice none 0 0, .int .i64 0, .bool false] [.l (lineN n nr), .l [], .l (lineN n fun _ => 0), .l (flat n fun _ _ => 0), .i 0, .b false] := wave_made S HNN.out ((HC0.out.trans HC_w108).trans2 hcz (fun i _ hi => .inr (by have hi : i = X := hi; omega))) HR.out (hcz.row ownO (fun b hb e => by obtain rfl : gO = b := (by simpa [Value.ownBlock] using hb); have e : gO = X := e; omega)) (hcz.row ownW (fun b hb e => by obtain rfl : gW = b := (by simpa [Value.ownBlock] using hb); have e : gW = X := e; omega)) hBz ((HB0.out.keep HC_w108 (fun hf => hf)).keep hcz (fun e => by have e : w.heap.size = X := e; omega)) (by omega) (by omega) (by omega) (by omega) (by omega)
        have HM := Lib.hid hmade
        clear hmade hBz hcz ownO ownW hX
        go_wp2_with fail
        go_meet
        case rel => exact ⟨X, rfl, gO, gW, HM⟩
      · skip
        go_simp
        have hX : Blk (w106.alloc (.cells #[.slice none 0 0, .slice none 0 0, .slice none 0 0, .slice none 0 0, .int .i64 0, .bool false] 33)) w106.heap.size [.slice none 0 0, .slice none 0 0, .slice none 0 0, .slice none 0 0, .int .i64 0, .bool false] := Blk.alloc w106 [.slice none 0 0, .slice none 0 0, .slice none 0 0, .slice none 0 0, .int .i64 0, .bool false] 33
        have hc_w109 : Chg NoF w106 (w106.alloc (.cells #[.slice none 0 0, .slice none 0 0, .slice none 0 0, .slice none 0 0, .int .i64 0, .bool false] 33)) := (Chg.refl NoF w106).alloc _
        obtain ⟨X, HXE⟩ : ∃ X, Hid (X = w106.heap.size) := ⟨_, Lib.hid rfl⟩
        rw [show w106.heap.size = X from HXE.out.symm] at hX
        rw [← HXE.out]
        have HC_w109 : Chg NoF wa (w106.alloc (.cells #[.slice none 0 0, .slice none 0 0, .slice none 0 0, .slice none 0 0, .int .i64 0, .bool false] 33)) := HC_w106.trans hc_w109
        replace ownW := hc_w109.row ownW (fun _ _ hf => hf)
        have hs_w109 : (w106.alloc (.cells #[.slice none 0 0, .slice none 0 0, .slice none 0 0, .slice none 0 0, .int .i64 0, .bool false] 33)).heap.size = w106.heap.size + 1 := by simp
        refine hK _ _ (fun _ => HC_w109) ?_
        clear hK
        generalize (w106.alloc (.cells #[.slice none 0 0, .slice none 0 0, .slice none 0 0, .slice none 0 0, .int .i64 0, .bool false] 33)) = w109 at *
        (try simp only [Act.put, List.setIfInBounds_toArray, List.set_cons_zero, List.set_cons_succ])
        refine wpPl_l (by simp only [opAt, List.getElem?_cons_zero, List.getElem?_cons_succ, Option.getD_some]; rfl) (by rfl) (fun K hK => ?_)
        refine wp_make (P := Tryd.prog) 22 _ _ rfl 3 (.int .i64 0) 1 8 infoInt Tryd.underlying22 .i64 .i64 n (by rfl) (by rfl) (by omega) (by omega) ?_
        intro gO w110 hgO ownO hc_w110 _
        have HGO := Lib.hid hgO
        clear hgO
        have HC_w110 : Chg NoF wa w110 := HC_w109.trans hc_w110
        replace ownW := hc_w110.row ownW (fun _ _ hf => hf)
        replace hX := hX.keep hc_w110 (fun hf => hf)
        have hs_w110 := hc_w110.size
        refine hK _ _ (fun _ => HC_w110) ?_
        clear hK
        (try simp only [Act.put, List.setIfInBounds_toArray, List.set_cons_zero, List.set_cons_succ])
        (refine wpPl_quiet (v := ?_) (by simp only [opAt, List.getElem?_cons_zero, List.getElem?_cons_succ, Option.getD_some]; rfl) (by rfl) (by exact fun _ _ _ h => h) (by intro w1 hS; clear hS; go_simp; with_reducible rfl) ?_; (simp only [Act.put, List.setIfInBounds_toArray, List.set_cons_zero, List.set_cons_succ]))
        refine wpPl_l (by simp only [opAt, List.getElem?_cons_zero, List.getElem?_cons_succ, Option.getD_some]; rfl) (by rfl) (fun K hK => ?_)
        refine wp_storeT aggWave _ _ rfl X [.slice (some ⟨bN, oN, none⟩) n nc, .slice none 0 0, .slice (some ⟨gO, 0, none⟩) n n, .slice (some ⟨gW, 0, none⟩) nn nn, .int .i64 0, .bool false] [.slice none 0 0, .slice none 0 0, .slice none 0 0, .slice none 0 0, .int .i64 0, .bool false] (by rfl) (by rfl) rfl hX rfl rfl ?_
        intro wz hBz hcz
        refine hK _ _ (fun h => absurd rfl h) ?_
        clear hK
        (try simp only [Act.put, List.setIfInBounds_toArray, List.set_cons_zero, List.set_cons_succ])
        refine wpPl_nil ?_
        have hsq := HSQ.out
        have hgo := HGO.out
        have hgw := HGW.out
        have hxe := HXE.out
        have hsa := HSA.out
        have hmade : Bx S w wz X w.heap.size [.slice (some ⟨bN, oN, none⟩) n nc, .slice none 0 0, .slice (some ⟨gO, 0, none⟩) n n, .slice (some ⟨gW, 0, none⟩) nn nn, .int .i64 0, .bool false] [.slice none 0 0, .slice none 0 0, .slice none 0 0, .slice none 0 0, .int .i64 0, .bool false] [.l (lineN n nr), .l [], .l (lineN n fun _ => 0), .l (flat n fun _ _ => 0), .i 0, .b false] := wave_made S HNN.out ((HC0.out.trans HC_w110).trans2 hcz (fun i _ hi => .inr (by have hi : i = X := hi; omega))) HR.out (hcz.row ownO (fun b hb e => by obtain rfl : gO = b := (by simpa [Value.ownBlock] using hb); have e : gO = X := e; omega)) (hcz.row ownW (fun b hb e => by obtain rfl : gW = b := (by simpa [Value.ownBlock] using hb); have e : gW = X := e; omega)) hBz ((HB0.out.keep HC_w110 (fun hf => hf)).keep hcz (fun e => by have e : w.heap.size = X := e; omega)) (by omega) (by omega) (by omega) (by omega) (by omega)
        have HM := Lib.hid hmade
        clear hmade hBz hcz ownO ownW hX
        go_wp2_with fail
        go_meet
        case rel => exact ⟨X, rfl, gO, gW, HM⟩
    · skip
      go_simp
      have hX : Blk (w100.alloc (.cells #[.slice none 0 0, .slice none 0 0, .slice none 0 0, .slice none 0 0, .int .i64 0, .bool false] 33)) w100.heap.size [.slice none 0 0, .slice none 0 0, .slice none 0 0, .slice none 0 0, .int .i64 0, .bool false] := Blk.alloc w100 [.slice none 0 0, .slice none 0 0, .slice none 0 0, .slice none 0 0, .int .i64 0, .bool false] 33
      have hc_w111 : Chg NoF w100 (w100.alloc (.cells #[.slice none 0 0, .slice none 0 0, .slice none 0 0, .slice none 0 0, .int .i64 0, .bool false] 33)) := (Chg.refl NoF w100).alloc _
      obtain ⟨X, HXE⟩ : ∃ X, Hid (X = w100.heap.size) := ⟨_, Lib.hid rfl⟩
      rw [show w100.heap.size = X from HXE.out.symm] at hX
      rw [← HXE.out]
      have HC_w111 : Chg NoF wa (w100.alloc (.cells #[.slice none 0 0, .slice none 0 0, .slice none 0 0, .slice none 0 0, .int .i64 0, .bool false] 33)) := HC_w100.trans hc_w111
      have hs_w111 : (w100.alloc (.cells #[.slice none 0 0, .slice none 0 0, .slice none 0 0, .slice none 0 0, .int .i64 0, .bool false] 33)).heap.size = w100.heap.size + 1 := by simp
      refine hK _ _ (fun _ => HC_w111) ?_
      clear hK
      generalize (w100.alloc (.cells #[.slice none 0 0, .slice none 0 0, .slice none 0 0, .slice none 0 0, .int .i64 0, .bool false] 33)) = w111 at *
      (try simp only [Act.put, List.setIfInBounds_toArray, List.set_cons_zero, List.set_cons_succ])
      refine wpPl_b2 (by simp only [opAt, List.getElem?_cons_zero, List.getElem?_cons_succ, Option.getD_some]; rfl) (by rfl) (by simp only [opAt, List.getElem?_cons_zero, List.getElem?_cons_succ, Option.getD_some]; rfl) (by rfl) (fun K hK => ?_) (fun K hK => ?_)
      · skip
        refine wp_make (P := Tryd.prog) 22 _ _ rfl 3 (.int .i64 0) 1 8 infoInt Tryd.underlying22 .i64 .i64 n (by rfl) (by rfl) (by omega) (by omega) ?_
        intro gO w112 hgO ownO hc_w112 _
        have HGO := Lib.hid hgO
        clear hgO
        have HC_w112 : Chg NoF wa w112 := HC_w111.trans hc_w112
        replace hX := hX.keep hc_w112 (fun hf => hf)
        have hs_w112 := hc_w112.size
        refine hK _ _ (fun _ => HC_w112) ?_
        clear hK
        (try simp only [Act.put, List.setIfInBounds_toArray, List.set_cons_zero, List.set_cons_succ])
        refine wpPl_l (by simp only [opAt, List.getElem?_cons_zero, List.getElem?_cons_succ, Option.getD_some]; rfl) (by rfl) (fun K hK => ?_)
        refine wp_make (P := Tryd.prog) 22 _ _ rfl 3 (.int .i64 0) 1 8 infoInt Tryd.underlying22 .i64 .i64 nn (by rfl) (by rfl) (by omega) (by omega) ?_
        intro gW w113 hgW ownW hc_w113 _
        have HGW := Lib.hid hgW
        clear hgW
        have HC_w113 : Chg NoF wa w113 := HC_w112.trans hc_w113
        replace hX := hX.keep hc_w113 (fun hf => hf)
        replace ownO := hc_w113.row ownO (fun _ _ hf => hf)
        have hs_w113 := hc_w113.size
        refine hK _ _ (fun _ => HC_w113) ?_
        clear hK
        (try simp only [Act.put, List.setIfInBounds_toArray, List.set_cons_zero, List.set_cons_succ])
        (refine wpPl_quiet (v := ?_) (by simp only [opAt, List.getElem?_cons_zero, List.getElem?_cons_succ, Option.getD_some]; rfl) (by rfl) (by exact fun _ _ _ h => h) (by intro w1 hS; clear hS; go_simp; with_reducible rfl) ?_; (simp only [Act.put, List.setIfInBounds_toArray, List.set_cons_zero, List.set_cons_succ]))
        refine wpPl_l (by simp only [opAt, List.getElem?_cons_zero, List.getElem?_cons_succ, Option.getD_some]; rfl) (by rfl) (fun K hK => ?_)
        refine wp_storeT aggWave _ _ rfl X [.slice (some ⟨bN, oN, none⟩) n nc, .slice none 0 0, .slice (some ⟨gO, 0, none⟩) n n, .slice (some ⟨gW, 0, none⟩) nn nn, .int .i64 0, .bool false] [.slice none 0 0, .slice none 0 0, .slice none 0 0, .slice none 0 0, .int .i64 0, .bool false] (by rfl) (by rfl) rfl hX rfl rfl ?_
        intro wz hBz hcz
        refine hK _ _ (fun h => absurd rfl h) ?_
        clear hK
        (try simp only [Act.put, List.setIfInBounds_toArray, List.set_cons_zero, List.set_cons_succ])
        refine wpPl_nil ?_
        have hsq := HSQ.out
        have hgo := HGO.out
        have hgw := HGW.out
        have hxe := HXE.out
        have hsa := HSA.out
        have hmade : Bx S w wz X w.heap.size [.slice (some ⟨bN, oN, none⟩) n nc, .slice none 0 0, .slice (some ⟨gO, 0, none⟩) n n, .slice (some ⟨gW, 0, none⟩) nn nn, .int .i64 0, .bool false] [.slice none 0 0, .slice none 0 0, .slice none 0 0, .slice none 0 0, .int .i64 0, .bool false] [.l (lineN n nr), .l [], .l (lineN n fun _ => 0), .l (flat n fun _ _ => 0), .i 0, .b false] := wave_made S HNN.out ((HC0.out.trans HC_w113).trans2 hcz (fun i _ hi => .inr (by have hi : i = X := hi; omega))) HR.out (hcz.row ownO (fun b hb e => by obtain rfl : gO = b := (by simpa [Value.ownBlock] using hb); have e : gO = X := e; omega)) (hcz.row ownW (fun b hb e => by obtain rfl : gW = b := (by simpa [Value.ownBlock] using hb); have e : gW = X := e; omega)) hBz ((HB0.out.keep HC_w113 (fun hf => hf)).keep hcz (fun e => by have e : w.heap.size = X := e; omega)) (by omega) (by omega) (by omega) (by omega) (by omega)
        have HM := Lib.hid hmade
        clear hmade hBz hcz ownO ownW hX
        go_wp2_with fail
        go_meet
        case rel => exact ⟨X, rfl, gO, gW, HM⟩
      · skip
        refine wp_make (P := Tryd.prog) 22 _ _ rfl 3 (.int .i64 0) 1 8 infoInt Tryd.underlying22 .i64 .i64 nn (by rfl) (by rfl) (by omega) (by omega) ?_
        intro gW w114 hgW ownW hc_w114 _
        have HGW := Lib.hid hgW
        clear hgW
        have HC_w114 : Chg NoF wa w114 := HC_w111.trans hc_w114
        replace hX := hX.keep hc_w114 (fun hf => hf)
        have hs_w114 := hc_w114.size
        refine hK _ _ (fun _ => HC_w114) ?_
        clear hK
        (try simp only [Act.put, List.setIfInBounds_toArray, List.set_cons_zero, List.set_cons_succ])
        refine wpPl_l (by simp only [opAt, List.getElem?_cons_zero, List.getElem?_cons_succ, Option.getD_some]; rfl) (by rfl) (fun K hK => ?_)
        refine wp_make (P := Tryd.prog) 22 _ _ rfl 3 (.int .i64 0) 1 8 infoInt Tryd.underlying22 .i64 .i64 n (by rfl) (by rfl) (by omega) (by omega) ?_
        intro gO w115 hgO ownO hc_w115 _
        have HGO := Lib.hid hgO
        clear hgO
        have HC_w115 : Chg NoF wa w115 := HC_w114.trans hc_w115
        replace hX := hX.keep hc_w115 (fun hf => hf)
        replace ownW := hc_w115.row ownW (fun _ _ hf => hf)
        have hs_w115 := hc_w115.size
        refine hK _ _ (fun _ => HC_w115) ?_
        clear hK
        (try simp only [Act.put, List.setIfInBounds_toArray, List.set_cons_zero, List.set_cons_succ])
        (refine wpPl_quiet (v := ?_) (by simp only [opAt, List.getElem?_cons_zero, List.getElem?_cons_succ, Option.getD_some]; rfl) (by rfl) (by exact fun _ _ _ h => h) (by intro w1 hS; clear hS; go_simp; with_reducible rfl) ?_; (simp only [Act.put, List.setIfInBounds_toArray, List.set_cons_zero, List.set_cons_succ]))
        refine wpPl_l (by simp only [opAt, List.getElem?_cons_zero, List.getElem?_cons_succ, Option.getD_some]; rfl) (by rfl) (fun K hK => ?_)
        refine wp_storeT aggWave _ _ rfl X [.slice (some ⟨bN, oN, none⟩) n nc, .slice none 0 0, .slice (some ⟨gO, 0, none⟩) n n, .slice (some ⟨gW, 0, none⟩) nn nn, .int .i64 0, .bool false] [.slice none 0 0, .slice none 0 0, .slice none 0 0, .slice none 0 0, .int .i64 0, .bool false] (by rfl) (by rfl) rfl hX rfl rfl ?_
        intro wz hBz hcz
        refine hK _ _ (fun h => absurd rfl h) ?_
        clear hK
        (try simp only [Act.put, List.setIfInBounds_toArray, List.set_cons_zero, List.set_cons_succ])
        refine wpPl_nil ?_
        have hsq := HSQ.out
        have hgo := HGO.out
        have hgw := HGW.out
        have hxe := HXE.out
        have hsa := HSA.out
        have hmade : Bx S w wz X w.heap.size [.slice (some ⟨bN, oN, none⟩) n nc, .slice none 0 0, .slice (some ⟨gO, 0, none⟩) n n, .slice (some ⟨gW, 0, none⟩) nn nn, .int .i64 0, .bool false] [.slice none 0 0, .slice none 0 0, .slice none 0 0, .slice none 0 0, .int .i64 0, .bool false] [.l (lineN n nr), .l [], .l (lineN n fun _ => 0), .l (flat n fun _ _ => 0), .i 0, .b false] := wave_made S HNN.out ((HC0.out.trans HC_w115).trans2 hcz (fun i _ hi => .inr (by have hi : i = X := hi; omega))) HR.out (hcz.row ownO (fun b hb e => by obtain rfl : gO = b := (by simpa [Value.ownBlock] using hb); have e : gO = X := e; omega)) (hcz.row ownW (fun b hb e => by obtain rfl : gW = b := (by simpa [Value.ownBlock] using hb); have e : gW = X := e; omega)) hBz ((HB0.out.keep HC_w115 (fun hf => hf)).keep hcz (fun e => by have e : w.heap.size = X := e; omega)) (by omega) (by omega) (by omega) (by omega) (by omega)
        have HM := Lib.hid hmade
        clear hmade hBz hcz ownO ownW hX
        go_wp2_with fail
        go_meet
        case rel => exact ⟨X, rfl, gO, gW, HM⟩
  case rest =>
  obtain ⟨X, rfl, gO, gW, HB⟩ := hcut
  clear HB0 HC0 HSA hw1 hw2
  have HXL : Hid (X < wc.heap.size) := Lib.hid HB.out.ref.bB.lt
  have HXR : Hid (X ≠ w.heap.size) := Lib.hid HB.out.ref.lo.2.2
  go_wp2_with fail
  go_loopw [5] (fun i wr => ∃ k : Nat, k ≤ n ∧ i = .int .i64 k ∧ ∃ pa pc, Hid (NewW wc wr X k pa pc [.slice (some ⟨bN, oN, none⟩) n nc, .slice pa k pc, .slice (some ⟨gO, 0, none⟩) n n, .slice (some ⟨gW, 0, none⟩) nn nn, .int .i64 0, .bool false])) (fun i _ => n - (intOf i).toNat)
  case atStart => exact ⟨0, Nat.zero_le _, rfl, none, 0, Lib.hid ⟨Chg.refl _ _, HB.out.ref.bB, World.ownsRow_nil _ _ _ _⟩⟩
  case round =>
    obtain ⟨k, hkn, rfl, pa, pc, HW⟩ := hrel
    by_cases hlt : k < n
    · have hk1 : (k : Int) < n := by omega
      have HKN : Hid (k + 1 ≤ n) := Lib.hid hlt
      have q1 : wr.cell? ⟨X, 1, none⟩ = some (.slice pa k pc) := HW.out.blk.cell 1
      have HRA : Hid ((wr.alloc (.cells #[.int .i64 (-1)] 3)).ownsRow wc.heap.size 3 1 (.slice pa k pc) k (List.replicate k (.int .i64 (-1)))) := Lib.hid (((Chg.refl NoF wr).alloc _).row HW.out.row (fun _ _ h => h))
      have HSZ : Hid (wc.heap.size ≤ wr.heap.size) := Lib.hid HW.out.chg.size
      go_wp2_with (at_builtin; refine wpList_append_lies _ rfl _ _ 22 rfl wc.heap.size 3 i0 (.int .i64 0) 1 8 Tryd.underlying22 hi hz0 hz1 hz2 rfl (by decide) (.slice pa k pc) k (List.replicate k (.int .i64 (-1))) rfl HRA.out ⟨wr.heap.size, 0, none⟩ 1 1 [.int .i64 (-1)] rfl rfl (World.news_of_block (cs := #[.int .i64 (-1)]) (t := 3) (fr := (0, 0)) (heap_alloc_new wr _)) (by simp [Value.oneCell']) (by omega) (by unfold maxLen; omega) (by omega) (by have := HSZ.out; simp; omega) _ rfl ?_; intro gP cP w2 hown hgrow hat hlt2; have HOW := Lib.hid hown; have HGW := Lib.hid hgrow; clear hown hgrow hat hlt2; have HBW : Hid (∀ b, (Value.slice pa k pc).ownBlock = some b → wc.heap.size ≤ b) := Lib.hid (fun b hb => (HRA.out.lt b hb).1); have HC2 : Hid (Chg (fun b => wc.heap.size ≤ b) wr w2) := Lib.hid (((Chg.refl (fun b => wc.heap.size ≤ b) wr).alloc _).grown HGW.out (fun b hb => .inl (HBW.out b hb))); have hbx : Blk w2 X _ := HW.out.blk.keep HC2.out (fun e => by have e : wc.heap.size ≤ X := e; have := HXL.out; omega); have s2 := hbx.cell 1; have z2 := hbx.frozen 1; have HBX := Lib.hid hbx; clear hbx)
      go_wp2
      have HW2 : Hid (NewW wc (w2.setCell ⟨X, 1, none⟩ (.slice (some ⟨gP, 0, none⟩) (k + 1) cP)) X (k + 1) (some ⟨gP, 0, none⟩) cP [.slice (some ⟨bN, oN, none⟩) n nc, .slice (some ⟨gP, 0, none⟩) (k + 1) cP, .slice (some ⟨gO, 0, none⟩) n n, .slice (some ⟨gW, 0, none⟩) nn nn, .int .i64 0, .bool false]) := Lib.hid
        ⟨(HW.out.chg.trans (HC2.out.mono fun b _ h => .inr h)).setCell (.inl (.inl rfl)) _, HBX.out.set 1 _, by
          have h1 := HOW.out
          rw [show List.replicate k (Value.int .i64 (-1)) ++ [.int .i64 (-1)] = List.replicate (k + 1) (.int .i64 (-1)) by rw [List.replicate_succ']] at h1
          exact (setCell_chg w2 ⟨X, 1, none⟩ _).row h1 (fun b hb e => by have := (h1.lt b hb).1; have e : b = X := e; have := HXL.out; omega)⟩
      clear q1 s2 z2
      go_roundw
      case rel => exact ⟨k + 1, HKN.out, by go_num, _, _, HW2⟩
      case measure => have := HKN.out; simp [intOf]; omega
    · have hk1 : ¬ (k : Int) < n := by omega
      obtain rfl : k = n := by omega
      have HB3 : Hid (Bx S w wr X w.heap.size [.slice (some ⟨bN, oN, none⟩) k nc, .slice pa k pc, .slice (some ⟨gO, 0, none⟩) k k, .slice (some ⟨gW, 0, none⟩) nn nn, .int .i64 0, .bool false] [.slice none 0 0, .slice none 0 0, .slice none 0 0, .slice none 0 0, .int .i64 0, .bool false] [.l (lineN k nr), .l (List.replicate k (-1)), .l (lineN k fun _ => 0), .l (flat k fun _ _ => 0), .i 0, .b false]) := Lib.hid (by
        have hlo := HB.out.ref.lo
        have hRl := HB.out.ref.bR.lt
        have hXl := HXL.out
        obtain ⟨f0, _, f2, f3, _, _, _⟩ := HB.out.fld
        have hk : ∀ b, (In S w X w.heap.size b ∧ b < wc.heap.size) → ¬ (b = X ∨ wc.heap.size ≤ b) := fun b hb e => by
          have := HB.out.notB b hb.1
          omega
        have keep : ∀ {v : Value} {f : Fd}, RdF (In S w X w.heap.size) wc v f → RdF (In S w X w.heap.size) wr v f := fun {v f} hf => ((RdF.mono (S' := fun b => In S w X w.heap.size b ∧ b < wc.heap.size) hf (fun b hb h => ⟨h, hb⟩)).keep HW.out.chg hk).mono (fun b _ h => h.1)
        refine ⟨⟨HB.out.ref.chg.trans2 HW.out.chg (fun i hi h => by omega), hlo, HW.out.blk, HB.out.ref.bR.keep HW.out.chg (fun e => by omega)⟩, keep f0, ?_, keep f2, keep f3, rfl, rfl, trivial⟩
        have h2 := HW.out.row
        rw [show List.replicate k (Value.int .i64 (-1)) = (List.replicate k (-1 : Int)).map (Value.int .i64) by rw [List.map_replicate]] at h2
        exact Rd.ofOwns (n := k) h2 (fun b hb => .inr (by have := (h2.lt b hb).1; omega)))
      clear hlt HW HB
      have q1 : wr.cell? ⟨X, 1, none⟩ = some (.slice pa k pc) := HB3.out.ref.bB.cell 1
      go_wp2_with fail
      refine (set_ref (In S w X w.heap.size) _ (List.replicate k (-1)) 0 0 wr (HB3.out.at (f := .l (List.replicate k (-1))) 1 rfl rfl) (by rw [List.length_replicate]; omega) (by rw [List.length_replicate]; omega)).mono ?_
      rintro e w6 ⟨v6, rfl, hr6, hc6⟩
      obtain ⟨a6, c6, e6⟩ := hr6.val
      rw [List.length_set, List.length_replicate] at e6
      subst e6
      have HX6 := Lib.hid (HB3.out.told (f := .l _) hr6)
      have HN6 := Lib.hid (HB3.out.no hc6)
      have HCF : Hid ([Fd.l (lineN k nr), .l ((List.replicate k (-1)).set 0 0), .l (lineN k fun _ => 0), .l (flat k fun _ _ => 0), .i 0, .b false] = ef (Wv.blank k nr)) := Lib.hid (by
        unfold ef
        have e2 : (List.replicate k (-1 : Int)).set 0 0 = line k (Wv.blank k nr).parent := by
          apply List.ext_getElem
          · simp [line]
          · intro j h1 h2
            rw [List.getElem_set]
            simp only [line, List.getElem_map, List.getElem_range, Wv.blank]
            by_cases e : j = 0
            · subst e; simp
            · rw [if_neg (fun e' => e e'.symm), if_neg e]; simp
        rw [e2]; rfl)
      have HB6 : Hid (Bx S w (w6.setCell ⟨X, 1, none⟩ (.slice a6 k c6)) X w.heap.size [.slice (some ⟨bN, oN, none⟩) k nc, .slice a6 k c6, .slice (some ⟨gO, 0, none⟩) k k, .slice (some ⟨gW, 0, none⟩) nn nn, .int .i64 0, .bool false] [.slice none 0 0, .slice none 0 0, .slice none 0 0, .slice none 0 0, .int .i64 0, .bool false] (ef (Wv.blank k nr))) := Lib.hid (by
        have h1 := HN6.out.set 1 _ _ HX6.out
        rw [← HCF.out]
        exact h1)
      clear q1 hr6 hc6
      have q1 : w6.cell? ⟨X, 1, none⟩ = some (.slice pa k pc) := HN6.out.ref.bB.cell 1
      have z1 := HN6.out.ref.bB.frozen 1
      go_upto_region 8 with fail
      clear q1 z1 HN6 HX6 HB3 HCF
      generalize w6.setCell _ _ = w7 at *
      have HRN : Hid (Rd (In S w X w.heap.size) w7 (.slice (some ⟨bN, oN, none⟩) k nc) (lineN k nr)) := Lib.hid (HB6.out.at (f := .l (lineN k nr)) 0 rfl rfl)
      obtain ⟨b1, o1, c1, e1, -, hc1⟩ := HRN.out.form (by rw [lineN_len]; omega)
      rw [lineN_len] at e1
      simp only [Value.slice.injEq, Option.some.injEq, Addr.mk.injEq, and_true] at e1
      obtain ⟨⟨rfl, rfl⟩, -, rfl⟩ := e1
      have dN := hc1 0 (by rw [lineN_len]; omega)
      rw [lineN_at _ (by omega), Nat.add_zero] at dN
      obtain ⟨nv, HNV⟩ : ∃ zz, Hid (nr 0 = zz) := ⟨_, Lib.hid rfl⟩
      rw [HNV.out] at dN
      have HNVB : Hid (nv < 2 ^ 40) := Lib.hid (by rw [← HNV.out]; exact (blank_bnd HNET.out).near 0 h1)
      have HK1 : Hid (0 < k) := Lib.hid h1
      have HBL := Lib.hid (blank_bnd HNET.out)
      obtain ⟨s0, HS0⟩ : ∃ zz, Hid (Wv.blank k nr = zz) := ⟨_, Lib.hid rfl⟩
      have HFI : Hid (Wv.init k nr = (s0.spread 0 nv).back 0) := Lib.hid (by rw [← HS0.out, ← HNV.out]; rfl)
      have HN0 : Hid (0 < s0.n) := Lib.hid (by rw [← HS0.out]; exact h1)
      rw [HS0.out] at HB6 HBL
      have HBS : Hid (Bnd (s0.spread 0 nv) 1) := Lib.hid (HBL.out.spreadTo 0 nv s0.n (Nat.le_refl _))
      have HNS : Hid (0 < (s0.spread 0 nv).n) := Lib.hid (by rw [show (s0.spread 0 nv).n = s0.n from spreadTo_n s0 0 nv s0.n]; exact HN0.out)
      have hk0 : 0 < k := HK1.out
      have hk2 : (0 : Int) < k := by omega
      clear hc1 HRN h1 h5
      refine wp_region_plan (Chg NoF w7) 6 [(0,true),(1,true),(2,true),(3,true),(4,false),(5,false),(6,false)] mixed (by kernel_rfl) (Chg.refl _ _).drew ?_
      simp only [planOps, List.map_cons, List.map_nil, List.getElem?_cons_zero, List.getElem?_cons_succ, Option.getD_some]
      generalize hops : List.toArray _ = ops
      refine wpPlan_quiet rfl (fun _ _ _ h => h) (fun w1 hS => quiet_loadT aggWave _ rfl X [.slice (some ⟨bN, oN, none⟩) k nc, .slice a6 k c6, .slice (some ⟨gO, 0, none⟩) k k, .slice (some ⟨gW, 0, none⟩) nn nn, .int .i64 0, .bool false] (by rfl) (HB6.out.ref.bB.keep hS (fun h => h)) rfl) ?_
      (simp only [Act.put, List.setIfInBounds_toArray, List.set_cons_zero, List.set_cons_succ])
      iterate 3 (refine wpPlan_quiet (v := ?_) rfl (fun _ _ _ h => h) (by intro w1 hS; have s0 := hS.cell_some dN (fun h => h); clear hS; go_simp; with_reducible rfl) ?_; (simp only [Act.put, List.setIfInBounds_toArray, List.set_cons_zero, List.set_cons_succ]))
      refine wpPlan_loud rfl (fun K hK => ?_)
      go_simp
      have HD8 := Lib.hid (HB6.out.no ((Chg.refl NoF w7).drew))
      refine (spread_ref (In S w X w.heap.size) _ _ s0 HD8.out.fld HBL.out (by omega) 0 nv HN0.out HNVB.out).mono ?_
      rintro e w8 ⟨v8, rfl, us8, rfl, hr8, hc8⟩
      have HC8 : Hid (Chg NoF w7 w8) := Lib.hid (((Chg.refl NoF w7).drew).trans hc8)
      have HR8 := Lib.hid (HD8.out.toldS hr8)
      have HB8 := Lib.hid (HB6.out.no HC8.out)
      refine hK _ _ (fun _ => HC8.out) ?_
      clear hK K hr8 hc8 HD8
      (try simp only [Act.put, List.setIfInBounds_toArray, List.set_cons_zero, List.set_cons_succ])
      refine wpPlan_loud rfl (fun K hK => ?_)
      go_simp
      refine (back_ref (In S w X w.heap.size) _ _ (s0.spread 0 nv) HR8.out HBS.out (by omega) 0 HNS.out (fun h => absurd rfl h)).mono ?_
      rintro e wb ⟨vb, rfl, usb, rfl, hrb, hcb⟩
      have HCB : Hid (Chg NoF w7 wb) := Lib.hid (HC8.out.trans hcb)
      have HRB := Lib.hid (HB8.out.toldS hrb)
      have HBB := Lib.hid (HB6.out.no HCB.out)
      refine hK _ _ (fun _ => HCB.out) ?_
      clear hK K hrb hcb
      (try simp only [Act.put, List.setIfInBounds_toArray, List.set_cons_zero, List.set_cons_succ])
      refine wpPlan_loud rfl (fun K hK => ?_)
      refine wp_storeT aggWave _ _ rfl w.heap.size usb _ (by rfl) (by rfl) HRB.out.len HBB.out.ref.bR rfl HRB.out.one ?_
      intro w9 hB9 hc9
      have HB9 := Lib.hid hB9
      have HC9 : Hid (Chg NoF w w9) := Lib.hid (HBB.out.ref.chg.trans2 hc9 fun i _ hi => .inr (by have hi : i = w.heap.size := hi; omega))
      have HR9 : Hid (RdS (More S w) w9 usb (ef (Wv.init k nr))) := Lib.hid (by
        rw [HFI.out]
        exact (HRB.out.keep hc9 (fun b hb e => (HBB.out.notB b hb).2 e)).mono (fun b _ hb => hb.elim (fun h => .inl h.1) (fun h => .inr h.1)))
      refine hK _ _ (fun h => absurd rfl h) ?_
      clear hK K hB9 hc9
      (try simp only [Act.put, List.setIfInBounds_toArray, List.set_cons_zero, List.set_cons_succ])
      clear hops
      refine wpPlan_nil ?_
      go_wp2_with fail
      (try simp only [Exit.inBlock, Exit.then]); refine bodyPost_ret (results_cell1 aggWave rfl _ _ _ _ (by rfl) HB9.out HRB.out.len) rfl ?_
      exact ⟨_, rfl, usb, rfl, HR9.out, HC9.out⟩

end Go.Proofs.YtckgkgaoioigdaaDoor
