/-
  The ring that chooses: how one is made.
  Conditions: the names are read as a list of integers.
-/
import Derived.Test.YtgpjjbfmckcjgaaDoorElC
import Derived.Test.YtgpjjbfmckcjgaaDoorLaws
namespace Go.Proofs.YtgpjjbfmckcjgaaDoor
open Go Go.RowKit

def chkName (l : List Int) (i : Nat) : Int := if inB (l.getD i 0) 1 1000 = false then 1 else if (l.take i).contains (l.getD i 0) = true then 6 else 0
def elErr (l : List Int) : Int := if l.length = 0 then 5 else if 5 < l.length then 4 else firstErr (chkName l) l.length

def NewPost (w : World) (l : List Int) (e : Ending) (w' : World) : Prop :=
  Chg NoF w w' ∧ ((elErr l ≠ 0 ∧ e = .returned (.tuple #[.pointer none, errV (elErr l)])) ∨
    (elErr l = 0 ∧ ∃ t, e = .returned (.tuple #[.pointer (some ⟨t, 0, none⟩), .nilIface]) ∧ RingIn (fun b => b < w.heap.size) w' t (Ring.init l)))

theorem infoBool : (Tryd.prog.info? 4).map (fun i => (i.zero, i.size, i.bytes)) = some (some (.bool false), 1, 1) := by kernel_rfl
theorem infoSl : (Tryd.prog.info? 22).map (fun i => (i.zero, i.size, i.bytes)) = some (some (.slice none 0 0), 1, 24) := by kernel_rfl

theorem ring_made (w w3 : World) (l : List Int) (v1 : Value) (g2 g3 : Nat) (e : TypeId) (h0 : 0 < l.length) (h5 : l.length ≤ 5) (h1 : w3.ownsRow 0 3 1 v1 l.length (l.map (.int .i64)))
    (h2 : w3.ownsRow 0 4 1 (.slice (some ⟨g2, 0, none⟩) l.length l.length) l.length (madeCells #[.bool false] (l.length * 1)).toList)
    (h3 : w3.ownsRow 0 22 1 (.slice (some ⟨g3, 0, none⟩) l.length l.length) l.length (madeCells #[.slice none 0 0] (l.length * 1)).toList)
    (b1 : ∀ b, v1.ownBlock = some b → w.heap.size ≤ b ∧ b < w3.heap.size ∧ b ≠ g2 ∧ b ≠ g3) (b2 : w.heap.size ≤ g2 ∧ g2 < w3.heap.size) (b3 : w.heap.size ≤ g3 ∧ g3 < w3.heap.size) (hne : g2 ≠ g3) (hc : Chg NoF w w3) :
    RingIn (fun b => b < w.heap.size) (w3.alloc (.cells #[v1, .slice (some ⟨g2, 0, none⟩) l.length l.length, .slice (some ⟨g3, 0, none⟩) l.length l.length, .int .i64 (-1), .int .i64 0] e)) w3.heap.size (Ring.init l) := by
  have hsz := hc.size
  have hca : Chg NoF w3 (w3.alloc (.cells #[v1, .slice (some ⟨g2, 0, none⟩) l.length l.length, .slice (some ⟨g3, 0, none⟩) l.length l.length, .int .i64 (-1), .int .i64 0] e)) := (Chg.refl _ w3).alloc _
  have hsz2 := hca.size
  refine ⟨fun b hb => by show b < _; exact Nat.lt_of_lt_of_le hb (Nat.le_trans hsz hsz2), fun i => ?_, v1, .slice (some ⟨g2, 0, none⟩) l.length l.length, .slice (some ⟨g3, 0, none⟩) l.length l.length, fun _ => .slice none 0 0, fun b => if b = w3.heap.size then 1 else if v1.ownBlock = some b then 2 else if b = g2 then 3 else if b = g3 then 4 else 0, ?_⟩
  · by_cases hi : i < l.length
    · simp [Ring.init, List.getD, hi]
    · simp [Ring.init, List.getD, Nat.not_lt.1 hi]
  refine ⟨fun b hb => ?_, by simp, Blk.alloc w3 [v1, _, _, _, _] e, ⟨hca.row h1 (fun _ _ hf => hf), fun b hb => ?_⟩, ⟨hca.row ?_ (fun _ _ hf => hf), fun b hb => ?_⟩, ⟨hca.row ?_ (fun _ _ hf => hf), fun b hb => ?_⟩, fun i hi => ?_, ?_⟩
  · have hb' : b < w.heap.size := hb
    show (if _ then _ else _) = 0
    rw [if_neg (by omega), if_neg (fun h => by have := b1 b h; omega), if_neg (by omega), if_neg (by omega)]
  · have := b1 b hb
    show (if _ then _ else _) = 2
    rw [if_neg (by omega), if_pos hb]
  · have : (madeCells #[Value.bool false] (l.length * 1)).toList = (Ring.init l).begun.map .bool := by
      rw [Nat.mul_one, toList_madeCells_one]; simp [Ring.init]
    rw [← this]; exact h2
  · obtain rfl : g2 = b := by simpa [Value.ownBlock] using hb
    show (if _ then _ else _) = 3
    rw [if_neg (by omega), if_neg (fun h => by have := b1 g2 h; omega), if_pos rfl]
  · have : (madeCells #[Value.slice none 0 0] (l.length * 1)).toList = (List.range l.length).map fun _ => Value.slice none 0 0 := by
      rw [Nat.mul_one, toList_madeCells_one, List.map_const', List.length_range]
    rw [← show (madeCells #[Value.slice none 0 0] (l.length * 1)).toList = (List.range (Ring.init l).names.length).map fun _ => Value.slice none 0 0 from this]; exact h3
  · obtain rfl : g3 = b := by simpa [Value.ownBlock] using hb
    show (if _ then _ else _) = 4
    rw [if_neg (by omega), if_neg (fun h => by have := b1 g3 h; omega), if_neg (by omega), if_pos rfl]
  · have : (Ring.init l).ways.getD i [] = [] := by
      have hi' : i < l.length := hi
      simp [Ring.init, List.getD, hi']
    rw [this]; exact Own.nil _ _ _ _ _
  · exact ⟨by simp [Ring.init], by simp [Ring.init], h0, h5⟩

set_option maxHeartbeats 4000000 in
set_option maxRecDepth 100000 in
theorem new_any (S : Nat → Prop) (v : Value) (l : List Int) (w : World) (hr : Rd S w v l) (hlb : l.length ≤ 9223372036854775807) :
    Calls Tryd.prog 6 #[v] w (NewPost w l) := by
  by_cases h0 : l.length = 0
  · have hE : Hid (elErr l = 5) := Lib.hid (by unfold elErr; rw [if_pos h0])
    obtain ⟨pa, ca, rfl⟩ := hr.val
    rw [h0]
    clear hr hlb h0
    go_enter Tryd.func6, Tryd.ntmps6
    go_wp2
    go_ret2
    exact ⟨Chg.refl _ _, .inl ⟨by rw [hE.out]; omega, by rw [hE.out]; rfl⟩⟩
  by_cases h5 : 5 < l.length
  · have hE : Hid (elErr l = 4) := Lib.hid (by unfold elErr; rw [if_neg h0, if_pos h5])
    obtain ⟨pa, ca, rfl⟩ := hr.val
    have hz : ((l.length : Int) == 0) = false := by rw [beq_eq_false_iff_ne]; omega
    clear hr h0
    go_enter Tryd.func6, Tryd.ntmps6
    go_wp2
    go_ret2
    exact ⟨Chg.refl _ _, .inl ⟨by rw [hE.out]; omega, by rw [hE.out]; rfl⟩⟩
  obtain ⟨b, off, c, rfl, _, hcap, hc⟩ := hr.formC (by omega)
  have HR := Lib.hid hr
  have HC := Lib.hid hc
  have hEE : elErr l = firstErr (chkName l) l.length := by unfold elErr; rw [if_neg h0, if_neg h5]
  have HEE := Lib.hid hEE
  obtain ⟨n, hN⟩ : ∃ n, Hid (l.length = n) := ⟨_, Lib.hid rfl⟩
  have hz : ((l.length : Int) == 0) = false := by rw [beq_eq_false_iff_ne]; omega
  rw [hN.out] at HR HEE h0 h5 hz hcap ⊢
  clear hr hc hEE hlb
  have hn1 : 1 ≤ n := by omega
  have H0 := Lib.hid h0
  clear h0
  go_enter Tryd.func6, Tryd.ntmps6
  go_wp2
  go_loop [4, 5, 16] (fun _ _ i => ∃ k : Nat, k ≤ n ∧ i = .int .i64 k ∧ Hid (∀ j, j < k → chkName l j = 0)) (fun _ _ i => n - (intOf i).toNat)
  case atStart => exact ⟨0, Nat.zero_le _, rfl, Lib.hid fun j hj => by omega⟩
  case round =>
    obtain ⟨k, hkn, rfl, HB⟩ := hrel
    by_cases hlt : k < n
    · obtain ⟨x, hX⟩ : ∃ x, Hid (l.getD k 0 = x) := ⟨_, Lib.hid rfl⟩
      have hcell : w.cell? ⟨b, off + k, none⟩ = some (.int .i64 x) := by rw [HC.out k (by rw [hN.out]; exact hlt), hX.out]
      have hk0 : (0 : Int) ≤ k := by omega
      have hk1 : (k : Int) < n := by omega
      have hk2 : (k : Int) ≤ c := by omega
      cases hin : inB x 1 1000 with
      | false =>
        have hck : chkName l k = 1 := by unfold chkName; rw [hX.out, if_pos hin]
        have hE : Hid (elErr l = 1) := Lib.hid (by rw [HEE.out, firstErr_at (by rw [hck]; omega) hlt HB.out, hck])
        clear hck
        go_wp2_with (go_at_call 25; refine (within_any _ _ _ _).mono ?_; rintro e w' ⟨rfl, rfl⟩)
        go_ret2
        exact ⟨Chg.refl _ _, .inl ⟨by rw [hE.out]; omega, by rw [hE.out]; rfl⟩⟩
      | true =>
        have HCT := Lib.hid (contains_any S _ (l.take k) x w (HR.out.take k (by rw [hN.out]; omega) c (by omega)) (by rw [List.length_take, hN.out]; omega))
        cases hct : (l.take k).contains x with
        | true =>
          rw [hct] at HCT
          have hck : chkName l k = 6 := by unfold chkName; rw [hX.out, if_neg (by simp [hin]), if_pos hct]
          have hE : Hid (elErr l = 6) := Lib.hid (by rw [HEE.out, firstErr_at (by rw [hck]; omega) hlt HB.out, hck])
          clear hck hct
          go_wp2_with (first | (go_at_call 25; refine (within_any _ _ _ _).mono ?_; rintro e w' ⟨rfl, rfl⟩) | (go_at_call 26; refine HCT.out.mono ?_; rintro e w' ⟨rfl, rfl⟩))
          go_ret2
          exact ⟨Chg.refl _ _, .inl ⟨by rw [hE.out]; omega, by rw [hE.out]; rfl⟩⟩
        | false =>
          rw [hct] at HCT
          have hck : chkName l k = 0 := by unfold chkName; rw [hX.out, if_neg (by simp [hin]), if_neg (by rw [hct]; simp)]
          have HB' : Hid (∀ j, j < k + 1 → chkName l j = 0) := Lib.hid fun j hj => by
            by_cases e : j = k
            · subst e; exact hck
            · exact HB.out j (by omega)
          clear hck hct
          go_wp2_with (first | (go_at_call 25; refine (within_any _ _ _ _).mono ?_; rintro e w' ⟨rfl, rfl⟩) | (go_at_call 26; refine HCT.out.mono ?_; rintro e w' ⟨rfl, rfl⟩))
          go_round
          case rel => exact ⟨k + 1, by omega, by go_num, HB'⟩
          case measure => simp [intOf]; omega
    · obtain rfl : k = n := by omega
      have hE : Hid (elErr l = 0) := Lib.hid (by rw [HEE.out]; exact firstErr_none HB.out)
      go_wp2
      refine wp_region_pl (Chg NoF w) 12 (.q 0 (.q 2 (.q 3 (.q 5 (.q 6 (.b3 1 4 7 (.b2 4 7 (.l 7 (.q 8 (.l 9 (.q 10 (.q 11 .nil))))) (.l 4 (.q 8 (.l 9 (.q 10 (.q 11 .nil)))))) (.b2 1 7 (.l 7 (.q 8 (.l 9 (.q 10 (.q 11 .nil))))) (.l 1 (.q 8 (.l 9 (.q 10 (.q 11 .nil)))))) (.b2 1 4 (.l 4 (.q 8 (.l 9 (.q 10 (.q 11 .nil))))) (.l 1 (.q 8 (.l 9 (.q 10 (.q 11 .nil))))))))))))  mixed (by kernel_rfl) (Chg.refl _ w).drew ?_
      refine wpPl_quiet (v := ?_) (by simp only [opAt, List.getElem?_cons_zero, Option.getD_some]; rfl) (by rfl) (by exact fun _ _ _ h => h) (by intro w1 hS; clear hS; go_simp; with_reducible rfl) ?_; (simp only [Act.put, List.setIfInBounds_toArray, List.set_cons_zero, List.set_cons_succ])
      refine wpPl_quiet (v := ?_) (by simp only [opAt, List.getElem?_cons_zero, List.getElem?_cons_succ, Option.getD_some]; rfl) (by rfl) (by exact fun _ _ _ h => h) (by intro w1 hS; clear hS; go_simp; with_reducible rfl) ?_; (simp only [Act.put, List.setIfInBounds_toArray, List.set_cons_zero, List.set_cons_succ])
      refine wpPl_quiet (v := ?_) (by simp only [opAt, List.getElem?_cons_zero, List.getElem?_cons_succ, Option.getD_some]; rfl) (by rfl) (by exact fun _ _ _ h => h) (by intro w1 hS; clear hS; go_simp; with_reducible rfl) ?_; (simp only [Act.put, List.setIfInBounds_toArray, List.set_cons_zero, List.set_cons_succ])
      refine wpPl_quiet (v := ?_) (by simp only [opAt, List.getElem?_cons_zero, List.getElem?_cons_succ, Option.getD_some]; rfl) (by rfl) (by exact fun _ _ _ h => h) (by intro w1 hS; clear hS; go_simp; with_reducible rfl) ?_; (simp only [Act.put, List.setIfInBounds_toArray, List.set_cons_zero, List.set_cons_succ])
      refine wpPl_quiet (v := ?_) (by simp only [opAt, List.getElem?_cons_zero, List.getElem?_cons_succ, Option.getD_some]; rfl) (by rfl) (by exact fun _ _ _ h => h) (by intro w1 hS; clear hS; go_simp; with_reducible rfl) ?_; (simp only [Act.put, List.setIfInBounds_toArray, List.set_cons_zero, List.set_cons_succ])
      refine wpPl_b3 (by simp only [opAt, List.getElem?_cons_zero, List.getElem?_cons_succ, Option.getD_some]; rfl) (by rfl) (by simp only [opAt, List.getElem?_cons_zero, List.getElem?_cons_succ, Option.getD_some]; rfl) (by rfl) (by simp only [opAt, List.getElem?_cons_zero, List.getElem?_cons_succ, Option.getD_some]; rfl) (by rfl) (fun K hK => ?_) (fun K hK => ?_) (fun K hK => ?_)
      · skip
        go_simp
        refine (clone_any _ _ l w.drew (HR.out.keep (Chg.refl NoF w).drew (fun _ _ h => h)) (by rw [hN.out]; omega)).mono ?_
        rintro e wa ⟨v1, rfl, own1, hc_wa⟩
        rw [hN.out] at own1
        obtain ⟨va, vc, rfl⟩ := owns_val own1
        have bb1 := own1.lt
        replace own1 := owns_zero own1
        have HC_wa : Chg NoF w wa := ((Chg.refl NoF w).drew).trans hc_wa
        refine hK _ _ (fun _ => HC_wa) ?_
        clear hK
        (try simp only [Act.put, List.setIfInBounds_toArray, List.set_cons_zero, List.set_cons_succ])
        refine wpPl_b2 (by simp only [opAt, List.getElem?_cons_zero, List.getElem?_cons_succ, Option.getD_some]; rfl) (by rfl) (by simp only [opAt, List.getElem?_cons_zero, List.getElem?_cons_succ, Option.getD_some]; rfl) (by rfl) (fun K hK => ?_) (fun K hK => ?_)
        · skip
          refine wp_make (P := Tryd.prog) 54 _ _ rfl 4 (.bool false) 1 1 infoBool Tryd.underlying54 .i64 .i64 k (by rfl) (by rfl) (by omega) (by omega) ?_
          intro g2 wb hg2 own2 hc_wb hlt2
          have HG2 := Lib.hid hg2
          clear hg2
          have HC_wb : Chg NoF w wb := (HC_wa).trans hc_wb
          refine hK _ _ (fun _ => HC_wb) ?_
          replace own1 := hc_wb.row own1 (fun _ _ hf => hf)
          clear hK
          (try simp only [Act.put, List.setIfInBounds_toArray, List.set_cons_zero, List.set_cons_succ])
          refine wpPl_l (by simp only [opAt, List.getElem?_cons_zero, List.getElem?_cons_succ, Option.getD_some]; rfl) (by rfl) (fun K hK => ?_)
          refine wp_make (P := Tryd.prog) 23 _ _ rfl 22 (.slice none 0 0) 1 24 infoSl Tryd.underlying23 .i64 .i64 k (by rfl) (by rfl) (by omega) (by omega) ?_
          intro g3 wc hg3 own3 hc_wc hlt3
          have HG3 := Lib.hid hg3
          clear hg3
          have HC_wc : Chg NoF w wc := (HC_wb).trans hc_wc
          refine hK _ _ (fun _ => HC_wc) ?_
          replace own1 := hc_wc.row own1 (fun _ _ hf => hf)
          replace own2 := hc_wc.row own2 (fun _ _ hf => hf)
          clear hK
          (try simp only [Act.put, List.setIfInBounds_toArray, List.set_cons_zero, List.set_cons_succ])
          refine wpPl_quiet (v := ?_) (by simp only [opAt, List.getElem?_cons_zero, List.getElem?_cons_succ, Option.getD_some]; rfl) (by rfl) (by exact fun _ _ _ h => h) (by intro w1 hS; clear hS; go_simp; with_reducible rfl) ?_; (simp only [Act.put, List.setIfInBounds_toArray, List.set_cons_zero, List.set_cons_succ])
          refine wpPl_l (by simp only [opAt, List.getElem?_cons_zero, List.getElem?_cons_succ, Option.getD_some]; rfl) (by rfl) (fun K hK => ?_)
          go_simp
          refine hK _ _ (fun _ => (HC_wc.alloc _)) ?_
          clear hK
          (try simp only [Act.put, List.setIfInBounds_toArray, List.set_cons_zero, List.set_cons_succ])
          refine wpPl_quiet (v := ?_) (by simp only [opAt, List.getElem?_cons_zero, List.getElem?_cons_succ, Option.getD_some]; rfl) (by rfl) (by exact fun _ _ _ h => h) (by intro w1 hS; clear hS; go_simp; with_reducible rfl) ?_; (simp only [Act.put, List.setIfInBounds_toArray, List.set_cons_zero, List.set_cons_succ])
          refine wpPl_quiet (v := ?_) (by simp only [opAt, List.getElem?_cons_zero, List.getElem?_cons_succ, Option.getD_some]; rfl) (by rfl) (by exact fun _ _ _ h => h) (by intro w1 hS; clear hS; go_simp; with_reducible rfl) ?_; (simp only [Act.put, List.setIfInBounds_toArray, List.set_cons_zero, List.set_cons_succ])
          refine wpPl_nil ?_
          have hg2 := HG2.out
          have hg3 := HG3.out
          have hs1 := hc_wa.size
          have hs2 := hc_wb.size
          have hs3 := hc_wc.size
          have hs0 : w.drew.heap.size = w.heap.size := rfl
          have hmade := ring_made w wc l (.slice va k vc) g2 g3 56 (by rw [hN.out]; omega) (by rw [hN.out]; omega) (by rw [hN.out]; exact own1) (by rw [hN.out]; exact own2) (by rw [hN.out]; exact own3) (fun b hb => by have := bb1 b hb; refine ⟨?_, ?_, ?_, ?_⟩ <;> omega) (by constructor <;> omega) (by constructor <;> omega) (by omega) HC_wc
          rw [hN.out] at hmade
          have HM := Lib.hid hmade
          have HC4 := Lib.hid (HC_wc.alloc (.cells #[.slice va k vc, .slice (some ⟨g2, 0, none⟩) k k, .slice (some ⟨g3, 0, none⟩) k k, .int .i64 (-1), .int .i64 0] 56))
          clear hmade own1 own2 own3 bb1 hs1 hs2 hs3 hs0 hg2 hg3
          go_wp2
          go_ret2
          exact ⟨HC4.out, .inr ⟨hE.out, _, rfl, HM.out⟩⟩
        · skip
          refine wp_make (P := Tryd.prog) 23 _ _ rfl 22 (.slice none 0 0) 1 24 infoSl Tryd.underlying23 .i64 .i64 k (by rfl) (by rfl) (by omega) (by omega) ?_
          intro g3 wb hg3 own3 hc_wb hlt3
          have HG3 := Lib.hid hg3
          clear hg3
          have HC_wb : Chg NoF w wb := (HC_wa).trans hc_wb
          refine hK _ _ (fun _ => HC_wb) ?_
          replace own1 := hc_wb.row own1 (fun _ _ hf => hf)
          clear hK
          (try simp only [Act.put, List.setIfInBounds_toArray, List.set_cons_zero, List.set_cons_succ])
          refine wpPl_l (by simp only [opAt, List.getElem?_cons_zero, List.getElem?_cons_succ, Option.getD_some]; rfl) (by rfl) (fun K hK => ?_)
          refine wp_make (P := Tryd.prog) 54 _ _ rfl 4 (.bool false) 1 1 infoBool Tryd.underlying54 .i64 .i64 k (by rfl) (by rfl) (by omega) (by omega) ?_
          intro g2 wc hg2 own2 hc_wc hlt2
          have HG2 := Lib.hid hg2
          clear hg2
          have HC_wc : Chg NoF w wc := (HC_wb).trans hc_wc
          refine hK _ _ (fun _ => HC_wc) ?_
          replace own1 := hc_wc.row own1 (fun _ _ hf => hf)
          replace own3 := hc_wc.row own3 (fun _ _ hf => hf)
          clear hK
          (try simp only [Act.put, List.setIfInBounds_toArray, List.set_cons_zero, List.set_cons_succ])
          refine wpPl_quiet (v := ?_) (by simp only [opAt, List.getElem?_cons_zero, List.getElem?_cons_succ, Option.getD_some]; rfl) (by rfl) (by exact fun _ _ _ h => h) (by intro w1 hS; clear hS; go_simp; with_reducible rfl) ?_; (simp only [Act.put, List.setIfInBounds_toArray, List.set_cons_zero, List.set_cons_succ])
          refine wpPl_l (by simp only [opAt, List.getElem?_cons_zero, List.getElem?_cons_succ, Option.getD_some]; rfl) (by rfl) (fun K hK => ?_)
          go_simp
          refine hK _ _ (fun _ => (HC_wc.alloc _)) ?_
          clear hK
          (try simp only [Act.put, List.setIfInBounds_toArray, List.set_cons_zero, List.set_cons_succ])
          refine wpPl_quiet (v := ?_) (by simp only [opAt, List.getElem?_cons_zero, List.getElem?_cons_succ, Option.getD_some]; rfl) (by rfl) (by exact fun _ _ _ h => h) (by intro w1 hS; clear hS; go_simp; with_reducible rfl) ?_; (simp only [Act.put, List.setIfInBounds_toArray, List.set_cons_zero, List.set_cons_succ])
          refine wpPl_quiet (v := ?_) (by simp only [opAt, List.getElem?_cons_zero, List.getElem?_cons_succ, Option.getD_some]; rfl) (by rfl) (by exact fun _ _ _ h => h) (by intro w1 hS; clear hS; go_simp; with_reducible rfl) ?_; (simp only [Act.put, List.setIfInBounds_toArray, List.set_cons_zero, List.set_cons_succ])
          refine wpPl_nil ?_
          have hg2 := HG2.out
          have hg3 := HG3.out
          have hs1 := hc_wa.size
          have hs2 := hc_wb.size
          have hs3 := hc_wc.size
          have hs0 : w.drew.heap.size = w.heap.size := rfl
          have hmade := ring_made w wc l (.slice va k vc) g2 g3 56 (by rw [hN.out]; omega) (by rw [hN.out]; omega) (by rw [hN.out]; exact own1) (by rw [hN.out]; exact own2) (by rw [hN.out]; exact own3) (fun b hb => by have := bb1 b hb; refine ⟨?_, ?_, ?_, ?_⟩ <;> omega) (by constructor <;> omega) (by constructor <;> omega) (by omega) HC_wc
          rw [hN.out] at hmade
          have HM := Lib.hid hmade
          have HC4 := Lib.hid (HC_wc.alloc (.cells #[.slice va k vc, .slice (some ⟨g2, 0, none⟩) k k, .slice (some ⟨g3, 0, none⟩) k k, .int .i64 (-1), .int .i64 0] 56))
          clear hmade own1 own2 own3 bb1 hs1 hs2 hs3 hs0 hg2 hg3
          go_wp2
          go_ret2
          exact ⟨HC4.out, .inr ⟨hE.out, _, rfl, HM.out⟩⟩
      · skip
        refine wp_make (P := Tryd.prog) 54 _ _ rfl 4 (.bool false) 1 1 infoBool Tryd.underlying54 .i64 .i64 k (by rfl) (by rfl) (by omega) (by omega) ?_
        intro g2 wa hg2 own2 hc_wa hlt2
        have HG2 := Lib.hid hg2
        clear hg2
        have HC_wa : Chg NoF w wa := ((Chg.refl NoF w).drew).trans hc_wa
        refine hK _ _ (fun _ => HC_wa) ?_
        clear hK
        (try simp only [Act.put, List.setIfInBounds_toArray, List.set_cons_zero, List.set_cons_succ])
        refine wpPl_b2 (by simp only [opAt, List.getElem?_cons_zero, List.getElem?_cons_succ, Option.getD_some]; rfl) (by rfl) (by simp only [opAt, List.getElem?_cons_zero, List.getElem?_cons_succ, Option.getD_some]; rfl) (by rfl) (fun K hK => ?_) (fun K hK => ?_)
        · skip
          go_simp
          refine (clone_any _ _ l wa (HR.out.keep HC_wa (fun _ _ h => h)) (by rw [hN.out]; omega)).mono ?_
          rintro e wb ⟨v1, rfl, own1, hc_wb⟩
          rw [hN.out] at own1
          obtain ⟨va, vc, rfl⟩ := owns_val own1
          have bb1 := own1.lt
          replace own1 := owns_zero own1
          have HC_wb : Chg NoF w wb := (HC_wa).trans hc_wb
          refine hK _ _ (fun _ => HC_wb) ?_
          replace own2 := hc_wb.row own2 (fun _ _ hf => hf)
          clear hK
          (try simp only [Act.put, List.setIfInBounds_toArray, List.set_cons_zero, List.set_cons_succ])
          refine wpPl_l (by simp only [opAt, List.getElem?_cons_zero, List.getElem?_cons_succ, Option.getD_some]; rfl) (by rfl) (fun K hK => ?_)
          refine wp_make (P := Tryd.prog) 23 _ _ rfl 22 (.slice none 0 0) 1 24 infoSl Tryd.underlying23 .i64 .i64 k (by rfl) (by rfl) (by omega) (by omega) ?_
          intro g3 wc hg3 own3 hc_wc hlt3
          have HG3 := Lib.hid hg3
          clear hg3
          have HC_wc : Chg NoF w wc := (HC_wb).trans hc_wc
          refine hK _ _ (fun _ => HC_wc) ?_
          replace own2 := hc_wc.row own2 (fun _ _ hf => hf)
          replace own1 := hc_wc.row own1 (fun _ _ hf => hf)
          clear hK
          (try simp only [Act.put, List.setIfInBounds_toArray, List.set_cons_zero, List.set_cons_succ])
          refine wpPl_quiet (v := ?_) (by simp only [opAt, List.getElem?_cons_zero, List.getElem?_cons_succ, Option.getD_some]; rfl) (by rfl) (by exact fun _ _ _ h => h) (by intro w1 hS; clear hS; go_simp; with_reducible rfl) ?_; (simp only [Act.put, List.setIfInBounds_toArray, List.set_cons_zero, List.set_cons_succ])
          refine wpPl_l (by simp only [opAt, List.getElem?_cons_zero, List.getElem?_cons_succ, Option.getD_some]; rfl) (by rfl) (fun K hK => ?_)
          go_simp
          refine hK _ _ (fun _ => (HC_wc.alloc _)) ?_
          clear hK
          (try simp only [Act.put, List.setIfInBounds_toArray, List.set_cons_zero, List.set_cons_succ])
          refine wpPl_quiet (v := ?_) (by simp only [opAt, List.getElem?_cons_zero, List.getElem?_cons_succ, Option.getD_some]; rfl) (by rfl) (by exact fun _ _ _ h => h) (by intro w1 hS; clear hS; go_simp; with_reducible rfl) ?_; (simp only [Act.put, List.setIfInBounds_toArray, List.set_cons_zero, List.set_cons_succ])
          refine wpPl_quiet (v := ?_) (by simp only [opAt, List.getElem?_cons_zero, List.getElem?_cons_succ, Option.getD_some]; rfl) (by rfl) (by exact fun _ _ _ h => h) (by intro w1 hS; clear hS; go_simp; with_reducible rfl) ?_; (simp only [Act.put, List.setIfInBounds_toArray, List.set_cons_zero, List.set_cons_succ])
          refine wpPl_nil ?_
          have hg2 := HG2.out
          have hg3 := HG3.out
          have hs1 := hc_wa.size
          have hs2 := hc_wb.size
          have hs3 := hc_wc.size
          have hs0 : w.drew.heap.size = w.heap.size := rfl
          have hmade := ring_made w wc l (.slice va k vc) g2 g3 56 (by rw [hN.out]; omega) (by rw [hN.out]; omega) (by rw [hN.out]; exact own1) (by rw [hN.out]; exact own2) (by rw [hN.out]; exact own3) (fun b hb => by have := bb1 b hb; refine ⟨?_, ?_, ?_, ?_⟩ <;> omega) (by constructor <;> omega) (by constructor <;> omega) (by omega) HC_wc
          rw [hN.out] at hmade
          have HM := Lib.hid hmade
          have HC4 := Lib.hid (HC_wc.alloc (.cells #[.slice va k vc, .slice (some ⟨g2, 0, none⟩) k k, .slice (some ⟨g3, 0, none⟩) k k, .int .i64 (-1), .int .i64 0] 56))
          clear hmade own1 own2 own3 bb1 hs1 hs2 hs3 hs0 hg2 hg3
          go_wp2
          go_ret2
          exact ⟨HC4.out, .inr ⟨hE.out, _, rfl, HM.out⟩⟩
        · skip
          refine wp_make (P := Tryd.prog) 23 _ _ rfl 22 (.slice none 0 0) 1 24 infoSl Tryd.underlying23 .i64 .i64 k (by rfl) (by rfl) (by omega) (by omega) ?_
          intro g3 wb hg3 own3 hc_wb hlt3
          have HG3 := Lib.hid hg3
          clear hg3
          have HC_wb : Chg NoF w wb := (HC_wa).trans hc_wb
          refine hK _ _ (fun _ => HC_wb) ?_
          replace own2 := hc_wb.row own2 (fun _ _ hf => hf)
          clear hK
          (try simp only [Act.put, List.setIfInBounds_toArray, List.set_cons_zero, List.set_cons_succ])
          refine wpPl_l (by simp only [opAt, List.getElem?_cons_zero, List.getElem?_cons_succ, Option.getD_some]; rfl) (by rfl) (fun K hK => ?_)
          go_simp
          refine (clone_any _ _ l wb (HR.out.keep HC_wb (fun _ _ h => h)) (by rw [hN.out]; omega)).mono ?_
          rintro e wc ⟨v1, rfl, own1, hc_wc⟩
          rw [hN.out] at own1
          obtain ⟨va, vc, rfl⟩ := owns_val own1
          have bb1 := own1.lt
          replace own1 := owns_zero own1
          have HC_wc : Chg NoF w wc := (HC_wb).trans hc_wc
          refine hK _ _ (fun _ => HC_wc) ?_
          replace own2 := hc_wc.row own2 (fun _ _ hf => hf)
          replace own3 := hc_wc.row own3 (fun _ _ hf => hf)
          clear hK
          (try simp only [Act.put, List.setIfInBounds_toArray, List.set_cons_zero, List.set_cons_succ])
          refine wpPl_quiet (v := ?_) (by simp only [opAt, List.getElem?_cons_zero, List.getElem?_cons_succ, Option.getD_some]; rfl) (by rfl) (by exact fun _ _ _ h => h) (by intro w1 hS; clear hS; go_simp; with_reducible rfl) ?_; (simp only [Act.put, List.setIfInBounds_toArray, List.set_cons_zero, List.set_cons_succ])
          refine wpPl_l (by simp only [opAt, List.getElem?_cons_zero, List.getElem?_cons_succ, Option.getD_some]; rfl) (by rfl) (fun K hK => ?_)
          go_simp
          refine hK _ _ (fun _ => (HC_wc.alloc _)) ?_
          clear hK
          (try simp only [Act.put, List.setIfInBounds_toArray, List.set_cons_zero, List.set_cons_succ])
          refine wpPl_quiet (v := ?_) (by simp only [opAt, List.getElem?_cons_zero, List.getElem?_cons_succ, Option.getD_some]; rfl) (by rfl) (by exact fun _ _ _ h => h) (by intro w1 hS; clear hS; go_simp; with_reducible rfl) ?_; (simp only [Act.put, List.setIfInBounds_toArray, List.set_cons_zero, List.set_cons_succ])
          refine wpPl_quiet (v := ?_) (by simp only [opAt, List.getElem?_cons_zero, List.getElem?_cons_succ, Option.getD_some]; rfl) (by rfl) (by exact fun _ _ _ h => h) (by intro w1 hS; clear hS; go_simp; with_reducible rfl) ?_; (simp only [Act.put, List.setIfInBounds_toArray, List.set_cons_zero, List.set_cons_succ])
          refine wpPl_nil ?_
          have hg2 := HG2.out
          have hg3 := HG3.out
          have hs1 := hc_wa.size
          have hs2 := hc_wb.size
          have hs3 := hc_wc.size
          have hs0 : w.drew.heap.size = w.heap.size := rfl
          have hmade := ring_made w wc l (.slice va k vc) g2 g3 56 (by rw [hN.out]; omega) (by rw [hN.out]; omega) (by rw [hN.out]; exact own1) (by rw [hN.out]; exact own2) (by rw [hN.out]; exact own3) (fun b hb => by have := bb1 b hb; refine ⟨?_, ?_, ?_, ?_⟩ <;> omega) (by constructor <;> omega) (by constructor <;> omega) (by omega) HC_wc
          rw [hN.out] at hmade
          have HM := Lib.hid hmade
          have HC4 := Lib.hid (HC_wc.alloc (.cells #[.slice va k vc, .slice (some ⟨g2, 0, none⟩) k k, .slice (some ⟨g3, 0, none⟩) k k, .int .i64 (-1), .int .i64 0] 56))
          clear hmade own1 own2 own3 bb1 hs1 hs2 hs3 hs0 hg2 hg3
          go_wp2
          go_ret2
          exact ⟨HC4.out, .inr ⟨hE.out, _, rfl, HM.out⟩⟩
      · skip
        refine wp_make (P := Tryd.prog) 23 _ _ rfl 22 (.slice none 0 0) 1 24 infoSl Tryd.underlying23 .i64 .i64 k (by rfl) (by rfl) (by omega) (by omega) ?_
        intro g3 wa hg3 own3 hc_wa hlt3
        have HG3 := Lib.hid hg3
        clear hg3
        have HC_wa : Chg NoF w wa := ((Chg.refl NoF w).drew).trans hc_wa
        refine hK _ _ (fun _ => HC_wa) ?_
        clear hK
        (try simp only [Act.put, List.setIfInBounds_toArray, List.set_cons_zero, List.set_cons_succ])
        refine wpPl_b2 (by simp only [opAt, List.getElem?_cons_zero, List.getElem?_cons_succ, Option.getD_some]; rfl) (by rfl) (by simp only [opAt, List.getElem?_cons_zero, List.getElem?_cons_succ, Option.getD_some]; rfl) (by rfl) (fun K hK => ?_) (fun K hK => ?_)
        · skip
          go_simp
          refine (clone_any _ _ l wa (HR.out.keep HC_wa (fun _ _ h => h)) (by rw [hN.out]; omega)).mono ?_
          rintro e wb ⟨v1, rfl, own1, hc_wb⟩
          rw [hN.out] at own1
          obtain ⟨va, vc, rfl⟩ := owns_val own1
          have bb1 := own1.lt
          replace own1 := owns_zero own1
          have HC_wb : Chg NoF w wb := (HC_wa).trans hc_wb
          refine hK _ _ (fun _ => HC_wb) ?_
          replace own3 := hc_wb.row own3 (fun _ _ hf => hf)
          clear hK
          (try simp only [Act.put, List.setIfInBounds_toArray, List.set_cons_zero, List.set_cons_succ])
          refine wpPl_l (by simp only [opAt, List.getElem?_cons_zero, List.getElem?_cons_succ, Option.getD_some]; rfl) (by rfl) (fun K hK => ?_)
          refine wp_make (P := Tryd.prog) 54 _ _ rfl 4 (.bool false) 1 1 infoBool Tryd.underlying54 .i64 .i64 k (by rfl) (by rfl) (by omega) (by omega) ?_
          intro g2 wc hg2 own2 hc_wc hlt2
          have HG2 := Lib.hid hg2
          clear hg2
          have HC_wc : Chg NoF w wc := (HC_wb).trans hc_wc
          refine hK _ _ (fun _ => HC_wc) ?_
          replace own3 := hc_wc.row own3 (fun _ _ hf => hf)
          replace own1 := hc_wc.row own1 (fun _ _ hf => hf)
          clear hK
          (try simp only [Act.put, List.setIfInBounds_toArray, List.set_cons_zero, List.set_cons_succ])
          refine wpPl_quiet (v := ?_) (by simp only [opAt, List.getElem?_cons_zero, List.getElem?_cons_succ, Option.getD_some]; rfl) (by rfl) (by exact fun _ _ _ h => h) (by intro w1 hS; clear hS; go_simp; with_reducible rfl) ?_; (simp only [Act.put, List.setIfInBounds_toArray, List.set_cons_zero, List.set_cons_succ])
          refine wpPl_l (by simp only [opAt, List.getElem?_cons_zero, List.getElem?_cons_succ, Option.getD_some]; rfl) (by rfl) (fun K hK => ?_)
          go_simp
          refine hK _ _ (fun _ => (HC_wc.alloc _)) ?_
          clear hK
          (try simp only [Act.put, List.setIfInBounds_toArray, List.set_cons_zero, List.set_cons_succ])
          refine wpPl_quiet (v := ?_) (by simp only [opAt, List.getElem?_cons_zero, List.getElem?_cons_succ, Option.getD_some]; rfl) (by rfl) (by exact fun _ _ _ h => h) (by intro w1 hS; clear hS; go_simp; with_reducible rfl) ?_; (simp only [Act.put, List.setIfInBounds_toArray, List.set_cons_zero, List.set_cons_succ])
          refine wpPl_quiet (v := ?_) (by simp only [opAt, List.getElem?_cons_zero, List.getElem?_cons_succ, Option.getD_some]; rfl) (by rfl) (by exact fun _ _ _ h => h) (by intro w1 hS; clear hS; go_simp; with_reducible rfl) ?_; (simp only [Act.put, List.setIfInBounds_toArray, List.set_cons_zero, List.set_cons_succ])
          refine wpPl_nil ?_
          have hg2 := HG2.out
          have hg3 := HG3.out
          have hs1 := hc_wa.size
          have hs2 := hc_wb.size
          have hs3 := hc_wc.size
          have hs0 : w.drew.heap.size = w.heap.size := rfl
          have hmade := ring_made w wc l (.slice va k vc) g2 g3 56 (by rw [hN.out]; omega) (by rw [hN.out]; omega) (by rw [hN.out]; exact own1) (by rw [hN.out]; exact own2) (by rw [hN.out]; exact own3) (fun b hb => by have := bb1 b hb; refine ⟨?_, ?_, ?_, ?_⟩ <;> omega) (by constructor <;> omega) (by constructor <;> omega) (by omega) HC_wc
          rw [hN.out] at hmade
          have HM := Lib.hid hmade
          have HC4 := Lib.hid (HC_wc.alloc (.cells #[.slice va k vc, .slice (some ⟨g2, 0, none⟩) k k, .slice (some ⟨g3, 0, none⟩) k k, .int .i64 (-1), .int .i64 0] 56))
          clear hmade own1 own2 own3 bb1 hs1 hs2 hs3 hs0 hg2 hg3
          go_wp2
          go_ret2
          exact ⟨HC4.out, .inr ⟨hE.out, _, rfl, HM.out⟩⟩
        · skip
          refine wp_make (P := Tryd.prog) 54 _ _ rfl 4 (.bool false) 1 1 infoBool Tryd.underlying54 .i64 .i64 k (by rfl) (by rfl) (by omega) (by omega) ?_
          intro g2 wb hg2 own2 hc_wb hlt2
          have HG2 := Lib.hid hg2
          clear hg2
          have HC_wb : Chg NoF w wb := (HC_wa).trans hc_wb
          refine hK _ _ (fun _ => HC_wb) ?_
          replace own3 := hc_wb.row own3 (fun _ _ hf => hf)
          clear hK
          (try simp only [Act.put, List.setIfInBounds_toArray, List.set_cons_zero, List.set_cons_succ])
          refine wpPl_l (by simp only [opAt, List.getElem?_cons_zero, List.getElem?_cons_succ, Option.getD_some]; rfl) (by rfl) (fun K hK => ?_)
          go_simp
          refine (clone_any _ _ l wb (HR.out.keep HC_wb (fun _ _ h => h)) (by rw [hN.out]; omega)).mono ?_
          rintro e wc ⟨v1, rfl, own1, hc_wc⟩
          rw [hN.out] at own1
          obtain ⟨va, vc, rfl⟩ := owns_val own1
          have bb1 := own1.lt
          replace own1 := owns_zero own1
          have HC_wc : Chg NoF w wc := (HC_wb).trans hc_wc
          refine hK _ _ (fun _ => HC_wc) ?_
          replace own3 := hc_wc.row own3 (fun _ _ hf => hf)
          replace own2 := hc_wc.row own2 (fun _ _ hf => hf)
          clear hK
          (try simp only [Act.put, List.setIfInBounds_toArray, List.set_cons_zero, List.set_cons_succ])
          refine wpPl_quiet (v := ?_) (by simp only [opAt, List.getElem?_cons_zero, List.getElem?_cons_succ, Option.getD_some]; rfl) (by rfl) (by exact fun _ _ _ h => h) (by intro w1 hS; clear hS; go_simp; with_reducible rfl) ?_; (simp only [Act.put, List.setIfInBounds_toArray, List.set_cons_zero, List.set_cons_succ])
          refine wpPl_l (by simp only [opAt, List.getElem?_cons_zero, List.getElem?_cons_succ, Option.getD_some]; rfl) (by rfl) (fun K hK => ?_)
          go_simp
          refine hK _ _ (fun _ => (HC_wc.alloc _)) ?_
          clear hK
          (try simp only [Act.put, List.setIfInBounds_toArray, List.set_cons_zero, List.set_cons_succ])
          refine wpPl_quiet (v := ?_) (by simp only [opAt, List.getElem?_cons_zero, List.getElem?_cons_succ, Option.getD_some]; rfl) (by rfl) (by exact fun _ _ _ h => h) (by intro w1 hS; clear hS; go_simp; with_reducible rfl) ?_; (simp only [Act.put, List.setIfInBounds_toArray, List.set_cons_zero, List.set_cons_succ])
          refine wpPl_quiet (v := ?_) (by simp only [opAt, List.getElem?_cons_zero, List.getElem?_cons_succ, Option.getD_some]; rfl) (by rfl) (by exact fun _ _ _ h => h) (by intro w1 hS; clear hS; go_simp; with_reducible rfl) ?_; (simp only [Act.put, List.setIfInBounds_toArray, List.set_cons_zero, List.set_cons_succ])
          refine wpPl_nil ?_
          have hg2 := HG2.out
          have hg3 := HG3.out
          have hs1 := hc_wa.size
          have hs2 := hc_wb.size
          have hs3 := hc_wc.size
          have hs0 : w.drew.heap.size = w.heap.size := rfl
          have hmade := ring_made w wc l (.slice va k vc) g2 g3 56 (by rw [hN.out]; omega) (by rw [hN.out]; omega) (by rw [hN.out]; exact own1) (by rw [hN.out]; exact own2) (by rw [hN.out]; exact own3) (fun b hb => by have := bb1 b hb; refine ⟨?_, ?_, ?_, ?_⟩ <;> omega) (by constructor <;> omega) (by constructor <;> omega) (by omega) HC_wc
          rw [hN.out] at hmade
          have HM := Lib.hid hmade
          have HC4 := Lib.hid (HC_wc.alloc (.cells #[.slice va k vc, .slice (some ⟨g2, 0, none⟩) k k, .slice (some ⟨g3, 0, none⟩) k k, .int .i64 (-1), .int .i64 0] 56))
          clear hmade own1 own2 own3 bb1 hs1 hs2 hs3 hs0 hg2 hg3
          go_wp2
          go_ret2
          exact ⟨HC4.out, .inr ⟨hE.out, _, rfl, HM.out⟩⟩

end Go.Proofs.YtgpjjbfmckcjgaaDoor
