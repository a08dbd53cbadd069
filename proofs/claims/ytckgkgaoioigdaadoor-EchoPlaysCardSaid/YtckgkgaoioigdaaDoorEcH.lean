/-
  The wave that comes back: a new one.
  Conditions: the sets are read as a list of integers.
-/
import Derived.Test.YtckgkgaoioigdaaDoorEcG
namespace Go.Proofs.YtckgkgaoioigdaaDoor
open Go Go.RowKit

def Wv.pre (n : Nat) (near : Nat → Nat) : Wv := ⟨n, near, fun _ => -1, fun _ => 0, fun _ _ => 0, 0, false, fun _ => 0⟩
theorem zeros_ints (n : Nat) : (madeCells (Value.int .i64 0).cells (n * 1)).toList = (List.range n).map fun _ => Value.int .i64 0 := by
  rw [Nat.mul_one, List.map_const', List.length_range]; exact toList_madeCells_one _ _
theorem repl_map (n : Nat) : List.replicate n (Value.int .i64 (-1)) = (List.range n).map fun _ => Value.int .i64 (-1) := by
  rw [List.map_const', List.length_range]
theorem infoSl : (Tryd.prog.info? 22).map (fun i => (i.zero, i.size, i.bytes)) = some (some (.slice none 0 0), 1, 24) := by kernel_rfl

def preV (gN cN gP gH n : Nat) : Ix → Value
  | .near => .slice (some ⟨gN, 0, none⟩) n cN
  | .parent => .slice (some ⟨gP, 0, none⟩) n n
  | .heard => .slice (some ⟨gH, 0, none⟩) n n
  | _ => .slice none 0 0
def preT (t gN gP gH : Nat) : Nat → Option (Option Ix) := fun b => if b = t then some none else if b = gN then some (some .near) else if b = gP then some (some .parent) else if b = gH then some (some .heard) else none

theorem wv_made (w w3 : World) (n : Nat) (near : Nat → Nat) (gN cN gP gH : Nat) (e : TypeId)
    (h1 : w3.ownsRow 0 3 1 (.slice (some ⟨gN, 0, none⟩) n cN) n ((List.range n).map fun p => .int .i64 (near p)))
    (h2 : w3.ownsRow 0 3 1 (.slice (some ⟨gP, 0, none⟩) n n) n ((List.range n).map fun _ => .int .i64 (-1)))
    (h3 : w3.ownsRow 0 3 1 (.slice (some ⟨gH, 0, none⟩) n n) n ((List.range n).map fun _ => .int .i64 0))
    (b1 : w.heap.size ≤ gN ∧ gN < w3.heap.size) (b2 : w.heap.size ≤ gP ∧ gP < w3.heap.size) (b3 : w.heap.size ≤ gH ∧ gH < w3.heap.size) (n1 : gN ≠ gP) (n2 : gN ≠ gH) (n3 : gP ≠ gH) :
    WAt (fun b => b < w.heap.size) (w3.alloc (.cells #[.slice (some ⟨gN, 0, none⟩) n cN, .slice (some ⟨gP, 0, none⟩) n n, .slice (some ⟨gH, 0, none⟩) n n, .slice none 0 0, .int .i64 0, .bool false] e)) w3.heap.size (Wv.pre n near) 0 (preV gN cN gP gH n) (preT w3.heap.size gN gP gH) where
  hS := fun b hb => by
    have hb : b < w.heap.size := hb
    exact ⟨by unfold preT; rw [if_neg (by omega), if_neg (by omega), if_neg (by omega), if_neg (by omega)], by simp; omega⟩
  ht := if_pos rfl
  blk := Blk.alloc w3 [.slice (some ⟨gN, 0, none⟩) n cN, .slice (some ⟨gP, 0, none⟩) n n, .slice (some ⟨gH, 0, none⟩) n n, .slice none 0 0, .int .i64 0, .bool false] e
  row := fun i => by
    cases i with
    | near => exact ((Chg.refl NoF w3).alloc _).row h1 (fun _ _ hf => hf)
    | parent => exact ((Chg.refl NoF w3).alloc _).row h2 (fun _ _ hf => hf)
    | heard => exact ((Chg.refl NoF w3).alloc _).row h3 (fun _ _ hf => hf)
    | ways => exact World.ownsRow_nil _ _ _ _
    | row p => rw [Wv.rowsR0 _ _ _ (show ¬ p < 0 by omega)]; exact World.ownsRow_nil _ _ _ _
  tg := fun i b hb => by
    cases i with
    | near =>
      obtain rfl : gN = b := by
        have hb : (Value.slice (some ⟨gN, 0, none⟩) n cN).ownBlock = some b := hb
        simpa [Value.ownBlock] using hb
      unfold preT; rw [if_neg (by omega), if_pos rfl]
    | parent =>
      obtain rfl : gP = b := by
        have hb : (Value.slice (some ⟨gP, 0, none⟩) n n).ownBlock = some b := hb
        simpa [Value.ownBlock] using hb
      unfold preT; rw [if_neg (by omega), if_neg (by omega), if_pos rfl]
    | heard =>
      obtain rfl : gH = b := by
        have hb : (Value.slice (some ⟨gH, 0, none⟩) n n).ownBlock = some b := hb
        simpa [Value.ownBlock] using hb
      unfold preT; rw [if_neg (by omega), if_neg (by omega), if_neg (by omega), if_pos rfl]
    | ways => cases hb
    | row p => rw [Wv.rowsR0 _ _ _ (show ¬ p < 0 by omega)] at hb; cases hb

/-- One row of ways more. -/
def addV (V : Ix → Value) (m : Nat) (r v : Value) : Ix → Value
  | .near => V .near
  | .parent => V .parent
  | .heard => V .heard
  | .ways => v
  | .row p => if p = m then r else V (.row p)

theorem WAt.addRow {S : Nat → Prop} {w w1 w2 : World} {t : Nat} {s : Wv} {m : Nat} {V : Ix → Value} {tag : Nat → Option (Option Ix)} (h : WAt S w t s m V tag) (hz : ∀ q, s.ways m q = 0) (hc0 : Chg NoF w w1) (r : Value)
    (hr : w1.ownsRow 0 3 1 r s.n ((List.range s.n).map fun _ => .int .i64 0)) (hrb : ∀ b, r.ownBlock = some b → w.heap.size ≤ b)
    (hc : Chg (fun b => (V .ways).ownBlock = some b) w1 w2) (v : Value) (ho : w2.ownsRow 0 22 1 v (m + 1) ((List.range m).map (fun p => V (.row p)) ++ [r]))
    (hb : ∀ b, v.ownBlock = some b → (V .ways).ownBlock = some b ∨ w1.heap.size ≤ b) : ∃ tag', WAt S (w2.setCell ⟨t, 3, none⟩ v) t s (m + 1) (addV V m r v) tag' := by
  have eR : s.rows m V (.row m) = Sl.none := if_neg (by omega)
  have h1 := Mem.newRow h (.row m) (w1 := w1) (by rw [eR]; exact hc0.mono fun _ _ => False.elim) 3 1 r s.n _ hr (fun b hb => .inr (hrb b hb))
  have h2 := h1.newRow .ways (w1 := w2) (by rw [upd_ne _ _ (by simp)]; exact hc) 22 1 v (m + 1) _ ho (by rw [upd_ne _ _ (by simp)]; exact hb)
  have h3 := h2.setTop 3 v
  refine ⟨_, h3.congr rfl fun i => ?_⟩
  cases i with
  | near => rw [upd_ne _ _ (by simp), upd_ne _ _ (by simp)]; rfl
  | parent => rw [upd_ne _ _ (by simp), upd_ne _ _ (by simp)]; rfl
  | heard => rw [upd_ne _ _ (by simp), upd_ne _ _ (by simp)]; rfl
  | ways =>
    rw [upd_self]
    show _ = (⟨_, _, v, _, (List.range (m + 1)).map fun k => addV V m r v (.row k)⟩ : Sl)
    rw [List.range_succ, List.map_append]
    congr 2
    · apply List.map_congr_left
      intro p hp
      have := List.mem_range.1 hp
      exact (if_neg (by omega)).symm
    · show [r] = [if m = m then r else V (.row m)]
      rw [if_pos rfl]
  | row k =>
    by_cases e : k = m
    · subst e
      rw [upd_ne _ _ (by simp), upd_self, s.rowsR (k + 1) _ (show k < k + 1 by omega)]
      show _ = (⟨_, _, if k = k then r else V (.row k), s.n, _⟩ : Sl)
      rw [if_pos rfl]
      simp only [hz]
    · rw [upd_ne _ _ (by simp), upd_ne _ _ (by simp [e])]
      show (if k < m then _ else _) = (if k < m + 1 then (⟨_, _, if k = m then r else V (.row k), s.n, _⟩ : Sl) else _)
      by_cases hk : k < m
      · rw [if_pos hk, if_pos (show k < m + 1 by omega), if_neg e]
      · rw [if_neg hk, if_neg (show ¬ k < m + 1 by omega)]

def NewPost (w : World) (l : List Int) (e : Ending) (w' : World) : Prop :=
  Chg NoF w w' ∧ ((checkErr l ≠ 0 ∧ e = .returned (.tuple #[.pointer none, errV (checkErr l)])) ∨ (checkErr l = 0 ∧ ∃ t, e = .returned (.tuple #[.pointer (some ⟨t, 0, none⟩), .nilIface]) ∧ WIn (fun b => b < w.heap.size) w' t (Wv.init l.length (nearOf l))))

set_option maxHeartbeats 16000000 in
set_option maxRecDepth 100000 in
theorem new_any (S : Nat → Prop) (v : Value) (l : List Int) (w : World) (hr : Rd S w v l) (hlb : l.length ≤ 9223372036854775807) :
    Calls Tryd.prog 5 #[v] w (NewPost w l) := by
  have HCK := Lib.hid (check_any S v l w hr hlb)
  by_cases hE : checkErr l = 0
  case neg =>
    have HE := Lib.hid hE
    obtain ⟨pa, ca, rfl⟩ := hr.val
    obtain ⟨c, hc⟩ : ∃ c, checkErr l = c := ⟨_, rfl⟩
    rw [hc] at hE HCK
    rw [show errV c = .iface 52 (.int .i64 c) from if_neg hE] at HCK
    have HV : Hid (errV (checkErr l) = .iface 52 (.int .i64 c)) := Lib.hid (by rw [hc]; exact if_neg hE)
    clear hr hlb hE hc
    go_enter Tryd.func5, Tryd.ntmps5
    go_wp2_with fail
    refine HCK.out.mono ?_
    rintro e w' ⟨rfl, rfl⟩
    go_wp2
    go_ret2
    exact ⟨Chg.refl _ _, .inl ⟨HE.out, by rw [HV.out]; rfl⟩⟩
  case pos =>
    have HE := Lib.hid hE
    obtain ⟨hnet, hvals⟩ := check_net hE
    have HNET := Lib.hid hnet
    have hn1 := hnet.n1
    have hn5 := hnet.n5
    obtain ⟨b, off, c, rfl, _, hcell⟩ := hr.form (by omega)
    have HR := Lib.hid hr
    have HCELL0 : Hid (w.cell? ⟨b, off, none⟩ = some (.int .i64 (nearOf l 0))) := Lib.hid (by
      have h := hcell 0 (by omega)
      rw [Nat.add_zero, hvals 0 (by omega)] at h; exact h)
    have HNR : Hid (l.map (Value.int .i64) = (List.range l.length).map fun p => .int .i64 ((nearOf l p : Nat) : Int)) := Lib.hid (by
      apply List.ext_getElem?
      intro j
      by_cases hj : j < l.length
      · have h1 := hvals j hj
        rw [List.getD_eq_getElem?_getD, List.getElem?_eq_getElem hj, Option.getD_some] at h1
        simp [hj, h1]
      · simp [hj])
    have HN40 : Hid (nearOf l 0 < 2 ^ 40) := Lib.hid (Nat.lt_of_lt_of_le (hnet.lt 0 (by omega)) (Nat.pow_le_pow_right (by omega) (by omega)))
    obtain ⟨n, hN⟩ : ∃ n, Hid (l.length = n) := ⟨_, Lib.hid rfl⟩
    rw [HE.out, hN.out, show errV 0 = .nilIface from rfl] at HCK
    rw [hN.out] at HR HNR hn1 hn5 ⊢
    have hnc : n ≤ c := by
      obtain ⟨_, _, c', e, _, h, _⟩ := hr.formC (by have := hnet.n1; exact this)
      rw [hN.out] at h
      simp only [Value.slice.injEq] at e
      rw [e.2.2]; exact h
    have hnpos : (0 : Int) < n := by omega
    clear hr hlb hE hnet hvals hcell
    have HC0 : Hid (Chg NoF w w.drew) := Lib.hid (Chg.refl NoF w).drew
    go_enter Tryd.func5, Tryd.ntmps5
    go_wp2_with fail
    refine HCK.out.mono ?_
    rintro e w' ⟨rfl, rfl⟩
    go_wp2_with fail
    refine wp_region_pl (Chg NoF w) 10 (.q 0 (.q 3 (.q 5 (.b3 1 2 6 (.b2 2 6 (.b2 4 6 (.l 6 (.q 7 (.l 8 (.q 9 .nil)))) (.l 4 (.q 7 (.l 8 (.q 9 .nil))))) (.l 2 (.l 4 (.q 7 (.l 8 (.q 9 .nil)))))) (.b2 1 6 (.b2 4 6 (.l 6 (.q 7 (.l 8 (.q 9 .nil)))) (.l 4 (.q 7 (.l 8 (.q 9 .nil))))) (.l 1 (.l 4 (.q 7 (.l 8 (.q 9 .nil)))))) (.b2 1 2 (.l 2 (.l 4 (.q 7 (.l 8 (.q 9 .nil))))) (.l 1 (.l 4 (.q 7 (.l 8 (.q 9 .nil)))))))))) mixed (by kernel_rfl) (Chg.refl _ w).drew ?_
    refine wpPl_quiet (v := ?_) (by simp only [opAt, List.getElem?_cons_zero, Option.getD_some]; rfl) (by rfl) (by exact fun _ _ _ h => h) (by intro w1 hS; clear hS; go_simp; with_reducible rfl) ?_; (simp only [Act.put, List.setIfInBounds_toArray, List.set_cons_zero, List.set_cons_succ])
    iterate 2 (refine wpPl_quiet (v := ?_) (by simp only [opAt, List.getElem?_cons_zero, List.getElem?_cons_succ, Option.getD_some]; rfl) (by rfl) (by exact fun _ _ _ h => h) (by intro w1 hS; clear hS; go_simp; with_reducible rfl) ?_; (simp only [Act.put, List.setIfInBounds_toArray, List.set_cons_zero, List.set_cons_succ]))
    obtain ⟨wx0, hw0⟩ : ∃ x, w.drew = x := ⟨_, rfl⟩
    have hs00 : w.heap.size = wx0.heap.size := by rw [← hw0]; rfl
    rw [hw0] at HC0 ⊢
    clear hw0
    refine wpPl_b3 (by simp only [opAt, List.getElem?_cons_zero, List.getElem?_cons_succ, Option.getD_some]; rfl) (by rfl) (by simp only [opAt, List.getElem?_cons_zero, List.getElem?_cons_succ, Option.getD_some]; rfl) (by rfl) (by simp only [opAt, List.getElem?_cons_zero, List.getElem?_cons_succ, Option.getD_some]; rfl) (by rfl) (fun K hK => ?g1_1) (fun K hK => ?g1_2) (fun K hK => ?g1_6)
    case' g1_1 =>
      go_simp
      refine (clone_any _ _ l wx0 (HR.out.keep HC0.out (fun _ _ h => h)) (by rw [hN.out]; omega)).mono ?_
      rintro e wx1 ⟨v1, rfl, own1, hc⟩
      rw [hN.out] at own1
      obtain ⟨gN, cN, rfl, hbN, hbN2⟩ := own1.form hn1
      have HO1 := Lib.hid own1
      have HC1 : Hid (Chg NoF w wx1) := Lib.hid (HC0.out.trans hc)
      have hs1 := hc.size
      clear own1
      refine hK _ _ (fun _ => HC1.out) ?_
      clear hK hc
      (try simp only [Act.put, List.setIfInBounds_toArray, List.set_cons_zero, List.set_cons_succ])
      refine wpPl_b2 (by simp only [opAt, List.getElem?_cons_zero, List.getElem?_cons_succ, Option.getD_some]; rfl) (by rfl) (by simp only [opAt, List.getElem?_cons_zero, List.getElem?_cons_succ, Option.getD_some]; rfl) (by rfl) (fun K hK => ?g2_2) (fun K hK => ?g2_6)
      case' g2_2 =>
        go_simp
        have hc : Chg NoF wx1 (wx1.alloc (.cells #[.int .i64 (-1)] 3)) := (Chg.refl NoF wx1).alloc _
        have hB0 : (wx1.alloc (.cells #[.int .i64 (-1)] 3)).cell? ⟨wx1.heap.size, 0, none⟩ = some (.int .i64 (-1)) := (Blk.alloc wx1 [.int .i64 (-1)] _).cell 0
        obtain ⟨gB, HGB⟩ : ∃ x, Hid (wx1.heap.size = x) := ⟨_, Lib.hid rfl⟩
        rw [HGB.out] at hB0 ⊢
        obtain ⟨wx2, HWwx2⟩ : ∃ x, Hid (wx1.alloc (.cells #[.int .i64 (-1)] 3) = x) := ⟨_, Lib.hid rfl⟩
        rw [HWwx2.out] at hB0 hc ⊢
        have HB0 := Lib.hid hB0
        clear hB0
        have HC2 : Hid (Chg NoF w wx2) := Lib.hid (HC1.out.trans hc)
        have hs2 := hc.size
        replace HO1 := Lib.hid (hc.row HO1.out (fun _ _ hf => hf))
        refine hK _ _ (fun _ => HC2.out) ?_
        clear hK hc
        (try simp only [Act.put, List.setIfInBounds_toArray, List.set_cons_zero, List.set_cons_succ])
        refine wpPl_b2 (by simp only [opAt, List.getElem?_cons_zero, List.getElem?_cons_succ, Option.getD_some]; rfl) (by rfl) (by simp only [opAt, List.getElem?_cons_zero, List.getElem?_cons_succ, Option.getD_some]; rfl) (by rfl) (fun K hK => ?g3_4) (fun K hK => ?g3_6)
        case' g3_4 =>
          go_simp
          refine (repeat_any wx2 gB n hn1 hn5 HB0.out).mono ?_
          rintro e wx3 ⟨gP, rfl, own2, hc⟩
          obtain ⟨hbP, hbP2⟩ := own2.lt gP rfl
          have HO2 := Lib.hid own2
          clear own2
          have HC3 : Hid (Chg NoF w wx3) := Lib.hid (HC2.out.trans hc)
          have hs3 := hc.size
          replace HO1 := Lib.hid (hc.row HO1.out (fun _ _ hf => hf))
          refine hK _ _ (fun _ => HC3.out) ?_
          clear hK hc
          (try simp only [Act.put, List.setIfInBounds_toArray, List.set_cons_zero, List.set_cons_succ])
          refine wpPl_l (by simp only [opAt, List.getElem?_cons_zero, List.getElem?_cons_succ, Option.getD_some]; rfl) (by rfl) (fun K hK => ?_)
          refine wp_make (P := Tryd.prog) 22 _ _ rfl 3 (.int .i64 0) 1 8 infoInt Tryd.underlying22 .i64 .i64 n (by rfl) (by rfl) (by omega) (by omega) ?_
          intro gH wx4 hbH own3 hc hbH2
          have hbH1 : wx3.heap.size ≤ gH := by rw [hbH]; exact Nat.le_refl _
          clear hbH
          have HO3 := Lib.hid own3
          clear own3
          have HC4 : Hid (Chg NoF w wx4) := Lib.hid (HC3.out.trans hc)
          have hs4 := hc.size
          replace HO1 := Lib.hid (hc.row HO1.out (fun _ _ hf => hf))
          replace HO2 := Lib.hid (hc.row HO2.out (fun _ _ hf => hf))
          refine hK _ _ (fun _ => HC4.out) ?_
          clear hK hc
          (try simp only [Act.put, List.setIfInBounds_toArray, List.set_cons_zero, List.set_cons_succ])
          refine wpPl_quiet (v := ?_) (by simp only [opAt, List.getElem?_cons_zero, List.getElem?_cons_succ, Option.getD_some]; rfl) (by rfl) (by exact fun _ _ _ h => h) (by intro w1 hS; clear hS; go_simp; with_reducible rfl) ?_; (simp only [Act.put, List.setIfInBounds_toArray, List.set_cons_zero, List.set_cons_succ])
          refine wpPl_l (by simp only [opAt, List.getElem?_cons_zero, List.getElem?_cons_succ, Option.getD_some]; rfl) (by rfl) (fun K hK => ?_)
          go_simp
          refine hK _ _ (fun _ => HC4.out.alloc _) ?_
          clear hK
          (try simp only [Act.put, List.setIfInBounds_toArray, List.set_cons_zero, List.set_cons_succ])
          refine wpPl_quiet (v := ?_) (by simp only [opAt, List.getElem?_cons_zero, List.getElem?_cons_succ, Option.getD_some]; rfl) (by rfl) (by exact fun _ _ _ h => h) (by intro w1 hS; clear hS; go_simp; with_reducible rfl) ?_; (simp only [Act.put, List.setIfInBounds_toArray, List.set_cons_zero, List.set_cons_succ])
          refine wpPl_nil ?_
          have HA := Lib.hid (wv_made w wx4 n (nearOf l) gN cN gP gH 49 (by rw [← HNR.out]; exact owns_zero HO1.out) (by rw [← repl_map]; exact owns_zero HO2.out) (by rw [← zeros_ints]; exact HO3.out) (by omega) (by omega) (by omega) (by omega) (by omega) (by omega))
          have HCA : Hid (Chg NoF w (wx4.alloc (.cells #[.slice (some ⟨gN, 0, none⟩) n cN, .slice (some ⟨gP, 0, none⟩) n n, .slice (some ⟨gH, 0, none⟩) n n, .slice none 0 0, .int .i64 0, .bool false] 49))) := Lib.hid (HC4.out.alloc _)
          obtain ⟨t, hT⟩ : ∃ t, Hid (wx4.heap.size = t) := ⟨_, Lib.hid rfl⟩
          rw [hT.out] at HA ⊢
          have HT : Hid (w.heap.size ≤ t) := Lib.hid (by rw [← hT.out]; omega)
          generalize World.alloc wx4 _ = wz at *
        case' g3_6 =>
          refine wp_make (P := Tryd.prog) 22 _ _ rfl 3 (.int .i64 0) 1 8 infoInt Tryd.underlying22 .i64 .i64 n (by rfl) (by rfl) (by omega) (by omega) ?_
          intro gH wx3 hbH own3 hc hbH2
          have hbH1 : wx2.heap.size ≤ gH := by rw [hbH]; exact Nat.le_refl _
          clear hbH
          have HO3 := Lib.hid own3
          clear own3
          have HC3 : Hid (Chg NoF w wx3) := Lib.hid (HC2.out.trans hc)
          have hs3 := hc.size
          replace HB0 := Lib.hid (hc.cell_some HB0.out (fun h => h))
          replace HO1 := Lib.hid (hc.row HO1.out (fun _ _ hf => hf))
          refine hK _ _ (fun _ => HC3.out) ?_
          clear hK hc
          (try simp only [Act.put, List.setIfInBounds_toArray, List.set_cons_zero, List.set_cons_succ])
          refine wpPl_l (by simp only [opAt, List.getElem?_cons_zero, List.getElem?_cons_succ, Option.getD_some]; rfl) (by rfl) (fun K hK => ?_)
          go_simp
          refine (repeat_any wx3 gB n hn1 hn5 HB0.out).mono ?_
          rintro e wx4 ⟨gP, rfl, own2, hc⟩
          obtain ⟨hbP, hbP2⟩ := own2.lt gP rfl
          have HO2 := Lib.hid own2
          clear own2
          have HC4 : Hid (Chg NoF w wx4) := Lib.hid (HC3.out.trans hc)
          have hs4 := hc.size
          replace HO1 := Lib.hid (hc.row HO1.out (fun _ _ hf => hf))
          replace HO3 := Lib.hid (hc.row HO3.out (fun _ _ hf => hf))
          refine hK _ _ (fun _ => HC4.out) ?_
          clear hK hc
          (try simp only [Act.put, List.setIfInBounds_toArray, List.set_cons_zero, List.set_cons_succ])
          refine wpPl_quiet (v := ?_) (by simp only [opAt, List.getElem?_cons_zero, List.getElem?_cons_succ, Option.getD_some]; rfl) (by rfl) (by exact fun _ _ _ h => h) (by intro w1 hS; clear hS; go_simp; with_reducible rfl) ?_; (simp only [Act.put, List.setIfInBounds_toArray, List.set_cons_zero, List.set_cons_succ])
          refine wpPl_l (by simp only [opAt, List.getElem?_cons_zero, List.getElem?_cons_succ, Option.getD_some]; rfl) (by rfl) (fun K hK => ?_)
          go_simp
          refine hK _ _ (fun _ => HC4.out.alloc _) ?_
          clear hK
          (try simp only [Act.put, List.setIfInBounds_toArray, List.set_cons_zero, List.set_cons_succ])
          refine wpPl_quiet (v := ?_) (by simp only [opAt, List.getElem?_cons_zero, List.getElem?_cons_succ, Option.getD_some]; rfl) (by rfl) (by exact fun _ _ _ h => h) (by intro w1 hS; clear hS; go_simp; with_reducible rfl) ?_; (simp only [Act.put, List.setIfInBounds_toArray, List.set_cons_zero, List.set_cons_succ])
          refine wpPl_nil ?_
          have HA := Lib.hid (wv_made w wx4 n (nearOf l) gN cN gP gH 49 (by rw [← HNR.out]; exact owns_zero HO1.out) (by rw [← repl_map]; exact owns_zero HO2.out) (by rw [← zeros_ints]; exact HO3.out) (by omega) (by omega) (by omega) (by omega) (by omega) (by omega))
          have HCA : Hid (Chg NoF w (wx4.alloc (.cells #[.slice (some ⟨gN, 0, none⟩) n cN, .slice (some ⟨gP, 0, none⟩) n n, .slice (some ⟨gH, 0, none⟩) n n, .slice none 0 0, .int .i64 0, .bool false] 49))) := Lib.hid (HC4.out.alloc _)
          obtain ⟨t, hT⟩ : ∃ t, Hid (wx4.heap.size = t) := ⟨_, Lib.hid rfl⟩
          rw [hT.out] at HA ⊢
          have HT : Hid (w.heap.size ≤ t) := Lib.hid (by rw [← hT.out]; omega)
          generalize World.alloc wx4 _ = wz at *
      case' g2_6 =>
        refine wp_make (P := Tryd.prog) 22 _ _ rfl 3 (.int .i64 0) 1 8 infoInt Tryd.underlying22 .i64 .i64 n (by rfl) (by rfl) (by omega) (by omega) ?_
        intro gH wx2 hbH own3 hc hbH2
        have hbH1 : wx1.heap.size ≤ gH := by rw [hbH]; exact Nat.le_refl _
        clear hbH
        have HO3 := Lib.hid own3
        clear own3
        have HC2 : Hid (Chg NoF w wx2) := Lib.hid (HC1.out.trans hc)
        have hs2 := hc.size
        replace HO1 := Lib.hid (hc.row HO1.out (fun _ _ hf => hf))
        refine hK _ _ (fun _ => HC2.out) ?_
        clear hK hc
        (try simp only [Act.put, List.setIfInBounds_toArray, List.set_cons_zero, List.set_cons_succ])
        refine wpPl_l (by simp only [opAt, List.getElem?_cons_zero, List.getElem?_cons_succ, Option.getD_some]; rfl) (by rfl) (fun K hK => ?_)
        go_simp
        have hc : Chg NoF wx2 (wx2.alloc (.cells #[.int .i64 (-1)] 3)) := (Chg.refl NoF wx2).alloc _
        have hB0 : (wx2.alloc (.cells #[.int .i64 (-1)] 3)).cell? ⟨wx2.heap.size, 0, none⟩ = some (.int .i64 (-1)) := (Blk.alloc wx2 [.int .i64 (-1)] _).cell 0
        obtain ⟨gB, HGB⟩ : ∃ x, Hid (wx2.heap.size = x) := ⟨_, Lib.hid rfl⟩
        rw [HGB.out] at hB0 ⊢
        obtain ⟨wx3, HWwx3⟩ : ∃ x, Hid (wx2.alloc (.cells #[.int .i64 (-1)] 3) = x) := ⟨_, Lib.hid rfl⟩
        rw [HWwx3.out] at hB0 hc ⊢
        have HB0 := Lib.hid hB0
        clear hB0
        have HC3 : Hid (Chg NoF w wx3) := Lib.hid (HC2.out.trans hc)
        have hs3 := hc.size
        replace HO1 := Lib.hid (hc.row HO1.out (fun _ _ hf => hf))
        replace HO3 := Lib.hid (hc.row HO3.out (fun _ _ hf => hf))
        refine hK _ _ (fun _ => HC3.out) ?_
        clear hK hc
        (try simp only [Act.put, List.setIfInBounds_toArray, List.set_cons_zero, List.set_cons_succ])
        refine wpPl_l (by simp only [opAt, List.getElem?_cons_zero, List.getElem?_cons_succ, Option.getD_some]; rfl) (by rfl) (fun K hK => ?_)
        go_simp
        refine (repeat_any wx3 gB n hn1 hn5 HB0.out).mono ?_
        rintro e wx4 ⟨gP, rfl, own2, hc⟩
        obtain ⟨hbP, hbP2⟩ := own2.lt gP rfl
        have HO2 := Lib.hid own2
        clear own2
        have HC4 : Hid (Chg NoF w wx4) := Lib.hid (HC3.out.trans hc)
        have hs4 := hc.size
        replace HO1 := Lib.hid (hc.row HO1.out (fun _ _ hf => hf))
        replace HO3 := Lib.hid (hc.row HO3.out (fun _ _ hf => hf))
        refine hK _ _ (fun _ => HC4.out) ?_
        clear hK hc
        (try simp only [Act.put, List.setIfInBounds_toArray, List.set_cons_zero, List.set_cons_succ])
        refine wpPl_quiet (v := ?_) (by simp only [opAt, List.getElem?_cons_zero, List.getElem?_cons_succ, Option.getD_some]; rfl) (by rfl) (by exact fun _ _ _ h => h) (by intro w1 hS; clear hS; go_simp; with_reducible rfl) ?_; (simp only [Act.put, List.setIfInBounds_toArray, List.set_cons_zero, List.set_cons_succ])
        refine wpPl_l (by simp only [opAt, List.getElem?_cons_zero, List.getElem?_cons_succ, Option.getD_some]; rfl) (by rfl) (fun K hK => ?_)
        go_simp
        refine hK _ _ (fun _ => HC4.out.alloc _) ?_
        clear hK
        (try simp only [Act.put, List.setIfInBounds_toArray, List.set_cons_zero, List.set_cons_succ])
        refine wpPl_quiet (v := ?_) (by simp only [opAt, List.getElem?_cons_zero, List.getElem?_cons_succ, Option.getD_some]; rfl) (by rfl) (by exact fun _ _ _ h => h) (by intro w1 hS; clear hS; go_simp; with_reducible rfl) ?_; (simp only [Act.put, List.setIfInBounds_toArray, List.set_cons_zero, List.set_cons_succ])
        refine wpPl_nil ?_
        have HA := Lib.hid (wv_made w wx4 n (nearOf l) gN cN gP gH 49 (by rw [← HNR.out]; exact owns_zero HO1.out) (by rw [← repl_map]; exact owns_zero HO2.out) (by rw [← zeros_ints]; exact HO3.out) (by omega) (by omega) (by omega) (by omega) (by omega) (by omega))
        have HCA : Hid (Chg NoF w (wx4.alloc (.cells #[.slice (some ⟨gN, 0, none⟩) n cN, .slice (some ⟨gP, 0, none⟩) n n, .slice (some ⟨gH, 0, none⟩) n n, .slice none 0 0, .int .i64 0, .bool false] 49))) := Lib.hid (HC4.out.alloc _)
        obtain ⟨t, hT⟩ : ∃ t, Hid (wx4.heap.size = t) := ⟨_, Lib.hid rfl⟩
        rw [hT.out] at HA ⊢
        have HT : Hid (w.heap.size ≤ t) := Lib.hid (by rw [← hT.out]; omega)
        generalize World.alloc wx4 _ = wz at *
    case' g1_2 =>
      go_simp
      have hc : Chg NoF wx0 (wx0.alloc (.cells #[.int .i64 (-1)] 3)) := (Chg.refl NoF wx0).alloc _
      have hB0 : (wx0.alloc (.cells #[.int .i64 (-1)] 3)).cell? ⟨wx0.heap.size, 0, none⟩ = some (.int .i64 (-1)) := (Blk.alloc wx0 [.int .i64 (-1)] _).cell 0
      obtain ⟨gB, HGB⟩ : ∃ x, Hid (wx0.heap.size = x) := ⟨_, Lib.hid rfl⟩
      rw [HGB.out] at hB0 ⊢
      obtain ⟨wx1, HWwx1⟩ : ∃ x, Hid (wx0.alloc (.cells #[.int .i64 (-1)] 3) = x) := ⟨_, Lib.hid rfl⟩
      rw [HWwx1.out] at hB0 hc ⊢
      have HB0 := Lib.hid hB0
      clear hB0
      have HC1 : Hid (Chg NoF w wx1) := Lib.hid (HC0.out.trans hc)
      have hs1 := hc.size
      refine hK _ _ (fun _ => HC1.out) ?_
      clear hK hc
      (try simp only [Act.put, List.setIfInBounds_toArray, List.set_cons_zero, List.set_cons_succ])
      refine wpPl_b2 (by simp only [opAt, List.getElem?_cons_zero, List.getElem?_cons_succ, Option.getD_some]; rfl) (by rfl) (by simp only [opAt, List.getElem?_cons_zero, List.getElem?_cons_succ, Option.getD_some]; rfl) (by rfl) (fun K hK => ?g4_1) (fun K hK => ?g4_6)
      case' g4_1 =>
        go_simp
        refine (clone_any _ _ l wx1 (HR.out.keep HC1.out (fun _ _ h => h)) (by rw [hN.out]; omega)).mono ?_
        rintro e wx2 ⟨v1, rfl, own1, hc⟩
        rw [hN.out] at own1
        obtain ⟨gN, cN, rfl, hbN, hbN2⟩ := own1.form hn1
        have HO1 := Lib.hid own1
        have HC2 : Hid (Chg NoF w wx2) := Lib.hid (HC1.out.trans hc)
        have hs2 := hc.size
        clear own1
        replace HB0 := Lib.hid (hc.cell_some HB0.out (fun h => h))
        refine hK _ _ (fun _ => HC2.out) ?_
        clear hK hc
        (try simp only [Act.put, List.setIfInBounds_toArray, List.set_cons_zero, List.set_cons_succ])
        refine wpPl_b2 (by simp only [opAt, List.getElem?_cons_zero, List.getElem?_cons_succ, Option.getD_some]; rfl) (by rfl) (by simp only [opAt, List.getElem?_cons_zero, List.getElem?_cons_succ, Option.getD_some]; rfl) (by rfl) (fun K hK => ?g5_4) (fun K hK => ?g5_6)
        case' g5_4 =>
          go_simp
          refine (repeat_any wx2 gB n hn1 hn5 HB0.out).mono ?_
          rintro e wx3 ⟨gP, rfl, own2, hc⟩
          obtain ⟨hbP, hbP2⟩ := own2.lt gP rfl
          have HO2 := Lib.hid own2
          clear own2
          have HC3 : Hid (Chg NoF w wx3) := Lib.hid (HC2.out.trans hc)
          have hs3 := hc.size
          replace HO1 := Lib.hid (hc.row HO1.out (fun _ _ hf => hf))
          refine hK _ _ (fun _ => HC3.out) ?_
          clear hK hc
          (try simp only [Act.put, List.setIfInBounds_toArray, List.set_cons_zero, List.set_cons_succ])
          refine wpPl_l (by simp only [opAt, List.getElem?_cons_zero, List.getElem?_cons_succ, Option.getD_some]; rfl) (by rfl) (fun K hK => ?_)
          refine wp_make (P := Tryd.prog) 22 _ _ rfl 3 (.int .i64 0) 1 8 infoInt Tryd.underlying22 .i64 .i64 n (by rfl) (by rfl) (by omega) (by omega) ?_
          intro gH wx4 hbH own3 hc hbH2
          have hbH1 : wx3.heap.size ≤ gH := by rw [hbH]; exact Nat.le_refl _
          clear hbH
          have HO3 := Lib.hid own3
          clear own3
          have HC4 : Hid (Chg NoF w wx4) := Lib.hid (HC3.out.trans hc)
          have hs4 := hc.size
          replace HO1 := Lib.hid (hc.row HO1.out (fun _ _ hf => hf))
          replace HO2 := Lib.hid (hc.row HO2.out (fun _ _ hf => hf))
          refine hK _ _ (fun _ => HC4.out) ?_
          clear hK hc
          (try simp only [Act.put, List.setIfInBounds_toArray, List.set_cons_zero, List.set_cons_succ])
          refine wpPl_quiet (v := ?_) (by simp only [opAt, List.getElem?_cons_zero, List.getElem?_cons_succ, Option.getD_some]; rfl) (by rfl) (by exact fun _ _ _ h => h) (by intro w1 hS; clear hS; go_simp; with_reducible rfl) ?_; (simp only [Act.put, List.setIfInBounds_toArray, List.set_cons_zero, List.set_cons_succ])
          refine wpPl_l (by simp only [opAt, List.getElem?_cons_zero, List.getElem?_cons_succ, Option.getD_some]; rfl) (by rfl) (fun K hK => ?_)
          go_simp
          refine hK _ _ (fun _ => HC4.out.alloc _) ?_
          clear hK
          (try simp only [Act.put, List.setIfInBounds_toArray, List.set_cons_zero, List.set_cons_succ])
          refine wpPl_quiet (v := ?_) (by simp only [opAt, List.getElem?_cons_zero, List.getElem?_cons_succ, Option.getD_some]; rfl) (by rfl) (by exact fun _ _ _ h => h) (by intro w1 hS; clear hS; go_simp; with_reducible rfl) ?_; (simp only [Act.put, List.setIfInBounds_toArray, List.set_cons_zero, List.set_cons_succ])
          refine wpPl_nil ?_
          have HA := Lib.hid (wv_made w wx4 n (nearOf l) gN cN gP gH 49 (by rw [← HNR.out]; exact owns_zero HO1.out) (by rw [← repl_map]; exact owns_zero HO2.out) (by rw [← zeros_ints]; exact HO3.out) (by omega) (by omega) (by omega) (by omega) (by omega) (by omega))
          have HCA : Hid (Chg NoF w (wx4.alloc (.cells #[.slice (some ⟨gN, 0, none⟩) n cN, .slice (some ⟨gP, 0, none⟩) n n, .slice (some ⟨gH, 0, none⟩) n n, .slice none 0 0, .int .i64 0, .bool false] 49))) := Lib.hid (HC4.out.alloc _)
          obtain ⟨t, hT⟩ : ∃ t, Hid (wx4.heap.size = t) := ⟨_, Lib.hid rfl⟩
          rw [hT.out] at HA ⊢
          have HT : Hid (w.heap.size ≤ t) := Lib.hid (by rw [← hT.out]; omega)
          generalize World.alloc wx4 _ = wz at *
        case' g5_6 =>
          refine wp_make (P := Tryd.prog) 22 _ _ rfl 3 (.int .i64 0) 1 8 infoInt Tryd.underlying22 .i64 .i64 n (by rfl) (by rfl) (by omega) (by omega) ?_
          intro gH wx3 hbH own3 hc hbH2
          have hbH1 : wx2.heap.size ≤ gH := by rw [hbH]; exact Nat.le_refl _
          clear hbH
          have HO3 := Lib.hid own3
          clear own3
          have HC3 : Hid (Chg NoF w wx3) := Lib.hid (HC2.out.trans hc)
          have hs3 := hc.size
          replace HB0 := Lib.hid (hc.cell_some HB0.out (fun h => h))
          replace HO1 := Lib.hid (hc.row HO1.out (fun _ _ hf => hf))
          refine hK _ _ (fun _ => HC3.out) ?_
          clear hK hc
          (try simp only [Act.put, List.setIfInBounds_toArray, List.set_cons_zero, List.set_cons_succ])
          refine wpPl_l (by simp only [opAt, List.getElem?_cons_zero, List.getElem?_cons_succ, Option.getD_some]; rfl) (by rfl) (fun K hK => ?_)
          go_simp
          refine (repeat_any wx3 gB n hn1 hn5 HB0.out).mono ?_
          rintro e wx4 ⟨gP, rfl, own2, hc⟩
          obtain ⟨hbP, hbP2⟩ := own2.lt gP rfl
          have HO2 := Lib.hid own2
          clear own2
          have HC4 : Hid (Chg NoF w wx4) := Lib.hid (HC3.out.trans hc)
          have hs4 := hc.size
          replace HO1 := Lib.hid (hc.row HO1.out (fun _ _ hf => hf))
          replace HO3 := Lib.hid (hc.row HO3.out (fun _ _ hf => hf))
          refine hK _ _ (fun _ => HC4.out) ?_
          clear hK hc
          (try simp only [Act.put, List.setIfInBounds_toArray, List.set_cons_zero, List.set_cons_succ])
          refine wpPl_quiet (v := ?_) (by simp only [opAt, List.getElem?_cons_zero, List.getElem?_cons_succ, Option.getD_some]; rfl) (by rfl) (by exact fun _ _ _ h => h) (by intro w1 hS; clear hS; go_simp; with_reducible rfl) ?_; (simp only [Act.put, List.setIfInBounds_toArray, List.set_cons_zero, List.set_cons_succ])
          refine wpPl_l (by simp only [opAt, List.getElem?_cons_zero, List.getElem?_cons_succ, Option.getD_some]; rfl) (by rfl) (fun K hK => ?_)
          go_simp
          refine hK _ _ (fun _ => HC4.out.alloc _) ?_
          clear hK
          (try simp only [Act.put, List.setIfInBounds_toArray, List.set_cons_zero, List.set_cons_succ])
          refine wpPl_quiet (v := ?_) (by simp only [opAt, List.getElem?_cons_zero, List.getElem?_cons_succ, Option.getD_some]; rfl) (by rfl) (by exact fun _ _ _ h => h) (by intro w1 hS; clear hS; go_simp; with_reducible rfl) ?_; (simp only [Act.put, List.setIfInBounds_toArray, List.set_cons_zero, List.set_cons_succ])
          refine wpPl_nil ?_
          have HA := Lib.hid (wv_made w wx4 n (nearOf l) gN cN gP gH 49 (by rw [← HNR.out]; exact owns_zero HO1.out) (by rw [← repl_map]; exact owns_zero HO2.out) (by rw [← zeros_ints]; exact HO3.out) (by omega) (by omega) (by omega) (by omega) (by omega) (by omega))
          have HCA : Hid (Chg NoF w (wx4.alloc (.cells #[.slice (some ⟨gN, 0, none⟩) n cN, .slice (some ⟨gP, 0, none⟩) n n, .slice (some ⟨gH, 0, none⟩) n n, .slice none 0 0, .int .i64 0, .bool false] 49))) := Lib.hid (HC4.out.alloc _)
          obtain ⟨t, hT⟩ : ∃ t, Hid (wx4.heap.size = t) := ⟨_, Lib.hid rfl⟩
          rw [hT.out] at HA ⊢
          have HT : Hid (w.heap.size ≤ t) := Lib.hid (by rw [← hT.out]; omega)
          generalize World.alloc wx4 _ = wz at *
      case' g4_6 =>
        refine wp_make (P := Tryd.prog) 22 _ _ rfl 3 (.int .i64 0) 1 8 infoInt Tryd.underlying22 .i64 .i64 n (by rfl) (by rfl) (by omega) (by omega) ?_
        intro gH wx2 hbH own3 hc hbH2
        have hbH1 : wx1.heap.size ≤ gH := by rw [hbH]; exact Nat.le_refl _
        clear hbH
        have HO3 := Lib.hid own3
        clear own3
        have HC2 : Hid (Chg NoF w wx2) := Lib.hid (HC1.out.trans hc)
        have hs2 := hc.size
        replace HB0 := Lib.hid (hc.cell_some HB0.out (fun h => h))
        refine hK _ _ (fun _ => HC2.out) ?_
        clear hK hc
        (try simp only [Act.put, List.setIfInBounds_toArray, List.set_cons_zero, List.set_cons_succ])
        refine wpPl_l (by simp only [opAt, List.getElem?_cons_zero, List.getElem?_cons_succ, Option.getD_some]; rfl) (by rfl) (fun K hK => ?_)
        go_simp
        refine (clone_any _ _ l wx2 (HR.out.keep HC2.out (fun _ _ h => h)) (by rw [hN.out]; omega)).mono ?_
        rintro e wx3 ⟨v1, rfl, own1, hc⟩
        rw [hN.out] at own1
        obtain ⟨gN, cN, rfl, hbN, hbN2⟩ := own1.form hn1
        have HO1 := Lib.hid own1
        have HC3 : Hid (Chg NoF w wx3) := Lib.hid (HC2.out.trans hc)
        have hs3 := hc.size
        clear own1
        replace HB0 := Lib.hid (hc.cell_some HB0.out (fun h => h))
        replace HO3 := Lib.hid (hc.row HO3.out (fun _ _ hf => hf))
        refine hK _ _ (fun _ => HC3.out) ?_
        clear hK hc
        (try simp only [Act.put, List.setIfInBounds_toArray, List.set_cons_zero, List.set_cons_succ])
        refine wpPl_l (by simp only [opAt, List.getElem?_cons_zero, List.getElem?_cons_succ, Option.getD_some]; rfl) (by rfl) (fun K hK => ?_)
        go_simp
        refine (repeat_any wx3 gB n hn1 hn5 HB0.out).mono ?_
        rintro e wx4 ⟨gP, rfl, own2, hc⟩
        obtain ⟨hbP, hbP2⟩ := own2.lt gP rfl
        have HO2 := Lib.hid own2
        clear own2
        have HC4 : Hid (Chg NoF w wx4) := Lib.hid (HC3.out.trans hc)
        have hs4 := hc.size
        replace HO1 := Lib.hid (hc.row HO1.out (fun _ _ hf => hf))
        replace HO3 := Lib.hid (hc.row HO3.out (fun _ _ hf => hf))
        refine hK _ _ (fun _ => HC4.out) ?_
        clear hK hc
        (try simp only [Act.put, List.setIfInBounds_toArray, List.set_cons_zero, List.set_cons_succ])
        refine wpPl_quiet (v := ?_) (by simp only [opAt, List.getElem?_cons_zero, List.getElem?_cons_succ, Option.getD_some]; rfl) (by rfl) (by exact fun _ _ _ h => h) (by intro w1 hS; clear hS; go_simp; with_reducible rfl) ?_; (simp only [Act.put, List.setIfInBounds_toArray, List.set_cons_zero, List.set_cons_succ])
        refine wpPl_l (by simp only [opAt, List.getElem?_cons_zero, List.getElem?_cons_succ, Option.getD_some]; rfl) (by rfl) (fun K hK => ?_)
        go_simp
        refine hK _ _ (fun _ => HC4.out.alloc _) ?_
        clear hK
        (try simp only [Act.put, List.setIfInBounds_toArray, List.set_cons_zero, List.set_cons_succ])
        refine wpPl_quiet (v := ?_) (by simp only [opAt, List.getElem?_cons_zero, List.getElem?_cons_succ, Option.getD_some]; rfl) (by rfl) (by exact fun _ _ _ h => h) (by intro w1 hS; clear hS; go_simp; with_reducible rfl) ?_; (simp only [Act.put, List.setIfInBounds_toArray, List.set_cons_zero, List.set_cons_succ])
        refine wpPl_nil ?_
        have HA := Lib.hid (wv_made w wx4 n (nearOf l) gN cN gP gH 49 (by rw [← HNR.out]; exact owns_zero HO1.out) (by rw [← repl_map]; exact owns_zero HO2.out) (by rw [← zeros_ints]; exact HO3.out) (by omega) (by omega) (by omega) (by omega) (by omega) (by omega))
        have HCA : Hid (Chg NoF w (wx4.alloc (.cells #[.slice (some ⟨gN, 0, none⟩) n cN, .slice (some ⟨gP, 0, none⟩) n n, .slice (some ⟨gH, 0, none⟩) n n, .slice none 0 0, .int .i64 0, .bool false] 49))) := Lib.hid (HC4.out.alloc _)
        obtain ⟨t, hT⟩ : ∃ t, Hid (wx4.heap.size = t) := ⟨_, Lib.hid rfl⟩
        rw [hT.out] at HA ⊢
        have HT : Hid (w.heap.size ≤ t) := Lib.hid (by rw [← hT.out]; omega)
        generalize World.alloc wx4 _ = wz at *
    case' g1_6 =>
      refine wp_make (P := Tryd.prog) 22 _ _ rfl 3 (.int .i64 0) 1 8 infoInt Tryd.underlying22 .i64 .i64 n (by rfl) (by rfl) (by omega) (by omega) ?_
      intro gH wx1 hbH own3 hc hbH2
      have hbH1 : wx0.heap.size ≤ gH := by rw [hbH]; exact Nat.le_refl _
      clear hbH
      have HO3 := Lib.hid own3
      clear own3
      have HC1 : Hid (Chg NoF w wx1) := Lib.hid (HC0.out.trans hc)
      have hs1 := hc.size
      refine hK _ _ (fun _ => HC1.out) ?_
      clear hK hc
      (try simp only [Act.put, List.setIfInBounds_toArray, List.set_cons_zero, List.set_cons_succ])
      refine wpPl_b2 (by simp only [opAt, List.getElem?_cons_zero, List.getElem?_cons_succ, Option.getD_some]; rfl) (by rfl) (by simp only [opAt, List.getElem?_cons_zero, List.getElem?_cons_succ, Option.getD_some]; rfl) (by rfl) (fun K hK => ?g6_1) (fun K hK => ?g6_2)
      case' g6_1 =>
        go_simp
        refine (clone_any _ _ l wx1 (HR.out.keep HC1.out (fun _ _ h => h)) (by rw [hN.out]; omega)).mono ?_
        rintro e wx2 ⟨v1, rfl, own1, hc⟩
        rw [hN.out] at own1
        obtain ⟨gN, cN, rfl, hbN, hbN2⟩ := own1.form hn1
        have HO1 := Lib.hid own1
        have HC2 : Hid (Chg NoF w wx2) := Lib.hid (HC1.out.trans hc)
        have hs2 := hc.size
        clear own1
        replace HO3 := Lib.hid (hc.row HO3.out (fun _ _ hf => hf))
        refine hK _ _ (fun _ => HC2.out) ?_
        clear hK hc
        (try simp only [Act.put, List.setIfInBounds_toArray, List.set_cons_zero, List.set_cons_succ])
        refine wpPl_l (by simp only [opAt, List.getElem?_cons_zero, List.getElem?_cons_succ, Option.getD_some]; rfl) (by rfl) (fun K hK => ?_)
        go_simp
        have hc : Chg NoF wx2 (wx2.alloc (.cells #[.int .i64 (-1)] 3)) := (Chg.refl NoF wx2).alloc _
        have hB0 : (wx2.alloc (.cells #[.int .i64 (-1)] 3)).cell? ⟨wx2.heap.size, 0, none⟩ = some (.int .i64 (-1)) := (Blk.alloc wx2 [.int .i64 (-1)] _).cell 0
        obtain ⟨gB, HGB⟩ : ∃ x, Hid (wx2.heap.size = x) := ⟨_, Lib.hid rfl⟩
        rw [HGB.out] at hB0 ⊢
        obtain ⟨wx3, HWwx3⟩ : ∃ x, Hid (wx2.alloc (.cells #[.int .i64 (-1)] 3) = x) := ⟨_, Lib.hid rfl⟩
        rw [HWwx3.out] at hB0 hc ⊢
        have HB0 := Lib.hid hB0
        clear hB0
        have HC3 : Hid (Chg NoF w wx3) := Lib.hid (HC2.out.trans hc)
        have hs3 := hc.size
        replace HO1 := Lib.hid (hc.row HO1.out (fun _ _ hf => hf))
        replace HO3 := Lib.hid (hc.row HO3.out (fun _ _ hf => hf))
        refine hK _ _ (fun _ => HC3.out) ?_
        clear hK hc
        (try simp only [Act.put, List.setIfInBounds_toArray, List.set_cons_zero, List.set_cons_succ])
        refine wpPl_l (by simp only [opAt, List.getElem?_cons_zero, List.getElem?_cons_succ, Option.getD_some]; rfl) (by rfl) (fun K hK => ?_)
        go_simp
        refine (repeat_any wx3 gB n hn1 hn5 HB0.out).mono ?_
        rintro e wx4 ⟨gP, rfl, own2, hc⟩
        obtain ⟨hbP, hbP2⟩ := own2.lt gP rfl
        have HO2 := Lib.hid own2
        clear own2
        have HC4 : Hid (Chg NoF w wx4) := Lib.hid (HC3.out.trans hc)
        have hs4 := hc.size
        replace HO1 := Lib.hid (hc.row HO1.out (fun _ _ hf => hf))
        replace HO3 := Lib.hid (hc.row HO3.out (fun _ _ hf => hf))
        refine hK _ _ (fun _ => HC4.out) ?_
        clear hK hc
        (try simp only [Act.put, List.setIfInBounds_toArray, List.set_cons_zero, List.set_cons_succ])
        refine wpPl_quiet (v := ?_) (by simp only [opAt, List.getElem?_cons_zero, List.getElem?_cons_succ, Option.getD_some]; rfl) (by rfl) (by exact fun _ _ _ h => h) (by intro w1 hS; clear hS; go_simp; with_reducible rfl) ?_; (simp only [Act.put, List.setIfInBounds_toArray, List.set_cons_zero, List.set_cons_succ])
        refine wpPl_l (by simp only [opAt, List.getElem?_cons_zero, List.getElem?_cons_succ, Option.getD_some]; rfl) (by rfl) (fun K hK => ?_)
        go_simp
        refine hK _ _ (fun _ => HC4.out.alloc _) ?_
        clear hK
        (try simp only [Act.put, List.setIfInBounds_toArray, List.set_cons_zero, List.set_cons_succ])
        refine wpPl_quiet (v := ?_) (by simp only [opAt, List.getElem?_cons_zero, List.getElem?_cons_succ, Option.getD_some]; rfl) (by rfl) (by exact fun _ _ _ h => h) (by intro w1 hS; clear hS; go_simp; with_reducible rfl) ?_; (simp only [Act.put, List.setIfInBounds_toArray, List.set_cons_zero, List.set_cons_succ])
        refine wpPl_nil ?_
        have HA := Lib.hid (wv_made w wx4 n (nearOf l) gN cN gP gH 49 (by rw [← HNR.out]; exact owns_zero HO1.out) (by rw [← repl_map]; exact owns_zero HO2.out) (by rw [← zeros_ints]; exact HO3.out) (by omega) (by omega) (by omega) (by omega) (by omega) (by omega))
        have HCA : Hid (Chg NoF w (wx4.alloc (.cells #[.slice (some ⟨gN, 0, none⟩) n cN, .slice (some ⟨gP, 0, none⟩) n n, .slice (some ⟨gH, 0, none⟩) n n, .slice none 0 0, .int .i64 0, .bool false] 49))) := Lib.hid (HC4.out.alloc _)
        obtain ⟨t, hT⟩ : ∃ t, Hid (wx4.heap.size = t) := ⟨_, Lib.hid rfl⟩
        rw [hT.out] at HA ⊢
        have HT : Hid (w.heap.size ≤ t) := Lib.hid (by rw [← hT.out]; omega)
        generalize World.alloc wx4 _ = wz at *
      case' g6_2 =>
        go_simp
        have hc : Chg NoF wx1 (wx1.alloc (.cells #[.int .i64 (-1)] 3)) := (Chg.refl NoF wx1).alloc _
        have hB0 : (wx1.alloc (.cells #[.int .i64 (-1)] 3)).cell? ⟨wx1.heap.size, 0, none⟩ = some (.int .i64 (-1)) := (Blk.alloc wx1 [.int .i64 (-1)] _).cell 0
        obtain ⟨gB, HGB⟩ : ∃ x, Hid (wx1.heap.size = x) := ⟨_, Lib.hid rfl⟩
        rw [HGB.out] at hB0 ⊢
        obtain ⟨wx2, HWwx2⟩ : ∃ x, Hid (wx1.alloc (.cells #[.int .i64 (-1)] 3) = x) := ⟨_, Lib.hid rfl⟩
        rw [HWwx2.out] at hB0 hc ⊢
        have HB0 := Lib.hid hB0
        clear hB0
        have HC2 : Hid (Chg NoF w wx2) := Lib.hid (HC1.out.trans hc)
        have hs2 := hc.size
        replace HO3 := Lib.hid (hc.row HO3.out (fun _ _ hf => hf))
        refine hK _ _ (fun _ => HC2.out) ?_
        clear hK hc
        (try simp only [Act.put, List.setIfInBounds_toArray, List.set_cons_zero, List.set_cons_succ])
        refine wpPl_l (by simp only [opAt, List.getElem?_cons_zero, List.getElem?_cons_succ, Option.getD_some]; rfl) (by rfl) (fun K hK => ?_)
        go_simp
        refine (clone_any _ _ l wx2 (HR.out.keep HC2.out (fun _ _ h => h)) (by rw [hN.out]; omega)).mono ?_
        rintro e wx3 ⟨v1, rfl, own1, hc⟩
        rw [hN.out] at own1
        obtain ⟨gN, cN, rfl, hbN, hbN2⟩ := own1.form hn1
        have HO1 := Lib.hid own1
        have HC3 : Hid (Chg NoF w wx3) := Lib.hid (HC2.out.trans hc)
        have hs3 := hc.size
        clear own1
        replace HB0 := Lib.hid (hc.cell_some HB0.out (fun h => h))
        replace HO3 := Lib.hid (hc.row HO3.out (fun _ _ hf => hf))
        refine hK _ _ (fun _ => HC3.out) ?_
        clear hK hc
        (try simp only [Act.put, List.setIfInBounds_toArray, List.set_cons_zero, List.set_cons_succ])
        refine wpPl_l (by simp only [opAt, List.getElem?_cons_zero, List.getElem?_cons_succ, Option.getD_some]; rfl) (by rfl) (fun K hK => ?_)
        go_simp
        refine (repeat_any wx3 gB n hn1 hn5 HB0.out).mono ?_
        rintro e wx4 ⟨gP, rfl, own2, hc⟩
        obtain ⟨hbP, hbP2⟩ := own2.lt gP rfl
        have HO2 := Lib.hid own2
        clear own2
        have HC4 : Hid (Chg NoF w wx4) := Lib.hid (HC3.out.trans hc)
        have hs4 := hc.size
        replace HO1 := Lib.hid (hc.row HO1.out (fun _ _ hf => hf))
        replace HO3 := Lib.hid (hc.row HO3.out (fun _ _ hf => hf))
        refine hK _ _ (fun _ => HC4.out) ?_
        clear hK hc
        (try simp only [Act.put, List.setIfInBounds_toArray, List.set_cons_zero, List.set_cons_succ])
        refine wpPl_quiet (v := ?_) (by simp only [opAt, List.getElem?_cons_zero, List.getElem?_cons_succ, Option.getD_some]; rfl) (by rfl) (by exact fun _ _ _ h => h) (by intro w1 hS; clear hS; go_simp; with_reducible rfl) ?_; (simp only [Act.put, List.setIfInBounds_toArray, List.set_cons_zero, List.set_cons_succ])
        refine wpPl_l (by simp only [opAt, List.getElem?_cons_zero, List.getElem?_cons_succ, Option.getD_some]; rfl) (by rfl) (fun K hK => ?_)
        go_simp
        refine hK _ _ (fun _ => HC4.out.alloc _) ?_
        clear hK
        (try simp only [Act.put, List.setIfInBounds_toArray, List.set_cons_zero, List.set_cons_succ])
        refine wpPl_quiet (v := ?_) (by simp only [opAt, List.getElem?_cons_zero, List.getElem?_cons_succ, Option.getD_some]; rfl) (by rfl) (by exact fun _ _ _ h => h) (by intro w1 hS; clear hS; go_simp; with_reducible rfl) ?_; (simp only [Act.put, List.setIfInBounds_toArray, List.set_cons_zero, List.set_cons_succ])
        refine wpPl_nil ?_
        have HA := Lib.hid (wv_made w wx4 n (nearOf l) gN cN gP gH 49 (by rw [← HNR.out]; exact owns_zero HO1.out) (by rw [← repl_map]; exact owns_zero HO2.out) (by rw [← zeros_ints]; exact HO3.out) (by omega) (by omega) (by omega) (by omega) (by omega) (by omega))
        have HCA : Hid (Chg NoF w (wx4.alloc (.cells #[.slice (some ⟨gN, 0, none⟩) n cN, .slice (some ⟨gP, 0, none⟩) n n, .slice (some ⟨gH, 0, none⟩) n n, .slice none 0 0, .int .i64 0, .bool false] 49))) := Lib.hid (HC4.out.alloc _)
        obtain ⟨t, hT⟩ : ∃ t, Hid (wx4.heap.size = t) := ⟨_, Lib.hid rfl⟩
        rw [hT.out] at HA ⊢
        have HT : Hid (w.heap.size ≤ t) := Lib.hid (by rw [← hT.out]; omega)
        generalize World.alloc wx4 _ = wz at *
    all_goals
      have HZ0 : Hid (WAt (fun b => b < w.heap.size) wz t (Wv.pre n (nearOf l)) 0 _ _ ∧ Chg NoF w wz) := Lib.hid ⟨HA.out, HCA.out⟩
      clear HA HCA HO1 HO2 HO3
      go_wp2_with fail
      go_loopw [24] (fun i wr => ∃ k : Nat, k ≤ n ∧ i = .int .i64 k ∧ ∃ V tag, Hid (WAt (fun b => b < w.heap.size) wr t (Wv.pre n (nearOf l)) k V tag ∧ Chg NoF w wr)) (fun i _ => n - (intOf i).toNat)
      case atStart => exact ⟨0, Nat.zero_le _, rfl, _, _, HZ0⟩
      case round =>
        clear HZ0
        obtain ⟨k, hkn, rfl, V, tag, HK⟩ := hrel
        by_cases hlt : k < n
        · have hk1 : (k : Int) < n := by omega
          have HKN : Hid (k + 1 ≤ n) := Lib.hid hlt
          obtain ⟨wr0, rfl⟩ : ∃ x, x = wr := ⟨_, rfl⟩
          obtain ⟨vw, HVW⟩ : ∃ x, Hid (V .ways = x) := ⟨_, Lib.hid rfl⟩
          have c3 : wr0.cell? ⟨t, 3, none⟩ = some (V .ways) := HK.out.1.blk.cell 3
          have f3 := HK.out.1.blk.frozen 3
          have tlt := HK.out.1.blk.lt
          have nW : ¬ (V .ways).ownBlock = some t := Mem.tne HK.out.1 (i := .ways)
          have ownW : wr0.ownsRow 0 22 1 (V .ways) k ((List.range k).map fun p => V (.row p)) := HK.out.1.row .ways
          rw [HVW.out] at c3 nW ownW
          have HNS := Lib.hid (fun b (hb : vw.ownBlock = some b) => Mem.notS HK.out.1 (i := .ways) (by show (V .ways).ownBlock = _; rw [HVW.out]; exact hb))
          have HTS := Lib.hid HK.out.1.tNotS
          go_wp2_with fail
          refine wp_region_plan (Chg (fun b => vw.ownBlock = some b) wr0) 11 [(0,true),(1,true),(2,true),(3,true),(4,true),(5,true),(6,false),(7,false),(8,false),(9,true),(10,true),(11,false)] mixed (by kernel_rfl) (Chg.refl _ _).drew ?_
          simp only [planOps, List.map_cons, List.map_nil, List.getElem?_cons_zero, List.getElem?_cons_succ, Option.getD_some]
          generalize hops : List.toArray _ = ops
          iterate 6 (refine wpPlan_quiet (v := ?_) rfl (fun _ _ _ h => h) (by intro w1 hS; have s0 := hS.cell_some c3 nW; clear hS; go_simp; with_reducible rfl) ?_; (simp only [Act.put, List.setIfInBounds_toArray, List.set_cons_zero, List.set_cons_succ]))
          refine wpPlan_loud rfl (fun K hK => ?_)
          refine wp_make (P := Tryd.prog) 22 _ _ rfl 3 (.int .i64 0) 1 8 infoInt Tryd.underlying22 .i64 .i64 n (by rfl) (by rfl) (by omega) (by omega) ?_
          intro g3 w3 hg3 own3 hc3 hlt3
          have HG3 := Lib.hid hg3
          clear hg3
          have hc3' : Chg NoF wr0 w3 := ((Chg.refl NoF wr0).drew).trans hc3
          refine hK _ _ (fun _ => hc3'.ofNo) ?_
          clear hK K
          (try simp only [Act.put, List.setIfInBounds_toArray, List.set_cons_zero, List.set_cons_succ])
          refine wpPlan_loud rfl (fun K hK => ?_)
          go_simp
          refine hK _ _ (fun _ => (hc3'.alloc _).ofNo) ?_
          clear hK K
          (try simp only [Act.put, List.setIfInBounds_toArray, List.set_cons_zero, List.set_cons_succ])
          refine wpPlan_loud rfl (fun K hK => ?_)
          refine wp_app _ _ 23 rfl 22 (.slice none 0 0) 1 24 infoSl Tryd.underlying23 rfl (by decide) vw k _ (by rfl) ((hc3'.alloc _).row ownW (fun _ _ hf => hf)) w3.heap.size 1 [.slice (some ⟨g3, 0, none⟩) n n] (by rfl) ⟨22, (0, 0), heap_alloc_new w3 _⟩ rfl (by simp [Value.oneCell']) (by omega) (by omega) ?_
          intro g4 cap4 w4 hown4 hc4 hat4 hlt4
          have hc5 : Chg (fun b => vw.ownBlock = some b) wr0 w4 := ((hc3'.alloc _).ofNo).trans hc4
          refine hK _ _ (fun _ => hc5) ?_
          clear hK K
          (try simp only [Act.put, List.setIfInBounds_toArray, List.set_cons_zero, List.set_cons_succ])
          iterate 2 (refine wpPlan_quiet (v := ?_) rfl (fun _ _ _ h => h) (by intro w1 hS; have s0 := hS.cell_some c3 nW; clear hS; go_simp; with_reducible rfl) ?_; (simp only [Act.put, List.setIfInBounds_toArray, List.set_cons_zero, List.set_cons_succ]))
          refine wpPlan_loud rfl (fun K hK => ?_)
          have s2 := hc5.cell_some c3 nW
          have f2 : w4.frozen? ⟨t, 3, none⟩ = false := by rw [World.frozen?_of_block (hc5.block t tlt nW)]; exact f3
          go_simp
          refine hK _ _ (fun h => absurd rfl h) ?_
          clear hK K
          clear hops
          refine wpPlan_nil ?_
          rw [zeros_ints] at own3
          have hADD := HK.out.1.addRow (fun _ => rfl) (hc3'.alloc _) (.slice (some ⟨g3, 0, none⟩) n n) (((Chg.refl NoF w3).alloc _).row own3 (fun _ _ hf => hf)) (fun b hb => by
            obtain rfl : g3 = b := by simpa [Value.ownBlock] using hb
            rw [HG3.out]; exact Nat.le_refl _) (by rw [HVW.out]; exact hc4) (.slice (some ⟨g4, 0, none⟩) (k + 1) cap4) hown4 (fun b hb => by rw [HVW.out]; exact hat4 b hb)
          have HC5 : Hid (Chg NoF w (w4.setCell ⟨t, 3, none⟩ (.slice (some ⟨g4, 0, none⟩) (k + 1) cap4))) := Lib.hid (((HK.out.2.ofNo (F := fun b => ¬ b < w.heap.size)).trans ((hc5.mono fun b _ hb => HNS.out b hb).setCell (.inl HTS.out) _)).mono fun b hb hf => hf hb)
          have HADD := Lib.hid hADD
          clear hADD hc5 hown4 hat4 hlt4 hc4 hc3' hc3 own3 hlt3 c3 f3 tlt nW ownW s2 f2 HVW HNS HTS
          generalize w4.setCell ⟨t, 3, none⟩ _ = w5 at *
          go_wp2
          go_roundw
          case rel =>
            obtain ⟨tag', hA⟩ := HADD.out
            exact ⟨k + 1, HKN.out, by go_num, _, tag', Lib.hid ⟨hA, HC5.out⟩⟩
          case measure => have := HKN.out; simp [intOf]; omega
        · obtain rfl : k = n := by omega
          have hk1 : ¬ (k : Int) < k := by omega
          obtain ⟨wr0, rfl⟩ : ∃ x, x = wr := ⟨_, rfl⟩
          have h1 := HK.out.1
          obtain ⟨bP, cP, vP, hpar, hPf, nPt, hSP, c1⟩ := h1.parentAt (show 0 < k by omega)
          have dP : wr0.cell? ⟨bP, 0, none⟩ = some (.int .i64 (-1)) := hpar 0 (show 0 < k by omega)
          have fP : wr0.frozen? ⟨bP, 0, none⟩ = false := hPf 0
          have c1 : wr0.cell? ⟨t, 1, none⟩ = some (.slice (some ⟨bP, 0, none⟩) k cP) := c1
          have A1 := h1.setParent vP (show 0 < k by omega) 0
          have HI1 : Hid (WIn (fun b => b < w.heap.size) (wr0.setCell ⟨bP, 0, none⟩ (.int .i64 0)) t (Wv.blank k (nearOf l))) := Lib.hid ⟨V, tag, A1⟩
          have HC1 : Hid (Chg NoF w (wr0.setCell ⟨bP, 0, none⟩ (.int .i64 0))) := Lib.hid (((HK.out.2.ofNo (F := fun b => ¬ b < w.heap.size)).setCell (.inl hSP) _).mono fun b hb hf => hf hb)
          obtain ⟨m0, HM0⟩ : ∃ x, Hid (nearOf l 0 = x) := ⟨_, Lib.hid rfl⟩
          have dN : (wr0.setCell ⟨bP, 0, none⟩ (.int .i64 0)).cell? ⟨b, off, none⟩ = some (.int .i64 m0) := by rw [← HM0.out]; exact HC1.out.cell_some HCELL0.out (fun h => h)
          clear h1 vP hpar hPf nPt hSP A1 hlt
          go_wp2_with fail
          clear c1 dP fP dN
          generalize World.setCell wr0 _ _ = w6 at *
          have hB : Bnd (Wv.blank k (nearOf l)) 1 := ⟨hn1, hn5, fun _ _ _ _ => by show 0 ≤ (0 : Int) ∧ (0 : Int) ≤ 1; omega, by show 0 ≤ (0 : Int) ∧ (0 : Int) ≤ 100 * 1; omega, fun a ha => Nat.lt_of_lt_of_le (HNET.out.lt a (by rw [hN.out]; exact ha)) (Nat.pow_le_pow_right (by omega) (by rw [hN.out]; omega))⟩
          have hm40 := HN40.out
          rw [HM0.out] at hm40
          have HSP := Lib.hid (show Calls Tryd.prog 22 #[.pointer (some ⟨t, 0, none⟩), .int .i64 0, .int .i64 m0] w6 _ from spread_any _ w6 t _ HI1.out hB (by omega) 0 m0 (show 0 < k by omega) hm40)
          have HB2 : Hid (Bnd ((Wv.blank k (nearOf l)).spread 0 m0) 2) := Lib.hid (hB.spreadTo 0 m0 _ (Nat.le_refl _))
          have HSN : Hid (((Wv.blank k (nearOf l)).spread 0 m0).n = k) := Lib.hid (spreadTo_n _ _ _ _)
          clear hB hm40
          refine HSP.out.mono ?_
          rintro e w7 ⟨rfl, hin7, hc7⟩
          have HBK := Lib.hid (show Calls Tryd.prog 23 #[.pointer (some ⟨t, 0, none⟩), .int .i64 0] w7 _ from back_any _ w7 t _ hin7 HB2.out (by omega) 0 (by rw [HSN.out]; omega) (fun h => absurd rfl h))
          have HC7 := Lib.hid ((HC1.out.ofNo (F := fun b => ¬ b < w.heap.size)).trans hc7)
          clear hin7 hc7 HSP
          go_wp2_with fail
          refine HBK.out.mono ?_
          rintro e w8 ⟨rfl, hin8, hc8⟩
          have HI8 : Hid (WIn (fun b => b < w.heap.size) w8 t (Wv.init l.length (nearOf l))) := Lib.hid (by
            unfold Wv.init; rw [hN.out, HM0.out]; exact hin8)
          have HC8 : Hid (Chg NoF w w8) := Lib.hid ((HC7.out.trans hc8).mono fun b hb hf => hf hb)
          clear hin8 hc8 HBK
          go_wp2
          go_ret2
          exact ⟨HC8.out, .inr ⟨HE.out, t, rfl, HI8.out⟩⟩

end Go.Proofs.YtckgkgaoioigdaaDoor
