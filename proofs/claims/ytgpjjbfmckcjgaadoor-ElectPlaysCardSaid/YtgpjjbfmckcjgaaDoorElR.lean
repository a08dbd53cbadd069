/-
  The document's answers about the ring that chooses: what each function computes.
  Conditions: the answer's lists are read, and tell the program's ring.
-/
import Derived.Test.YtgpjjbfmckcjgaaDoorElMath2
import Derived.Test.YtgpjjbfmckcjgaaDoorBox
import Derived.Test.YtgpjjbfmckcjgaaDoorSetB
import Derived.Deep.DeepCutAuto
namespace Go.Proofs.YtgpjjbfmckcjgaaDoor
open Go Go.RowKit

def Ring.mask (s : Ring) : Nat := setB (fun k => s.begun.getD k false) s.names.length
/-- The document's ring, field by field. -/
def rf (s : Ring) : List Fd := [.l s.names, .i s.mask, .r s.ways, .i s.leader, .i s.sent]

/-- What the document's functions ask. -/
structure RGood (s : Ring) : Prop where
  lb : s.begun.length = s.names.length
  lw : s.ways.length = s.names.length
  n0 : 0 < s.names.length
  n5 : s.names.length ≤ 5
  wy : ∀ i, (s.ways.getD i []).length ≤ s.sent
  st : s.sent ≤ 1000

theorem Ring.mask_lt {s : Ring} (h : s.names.length ≤ 5) : s.mask < 32 := Nat.lt_of_lt_of_le (setB_lt _ _) (Nat.pow_le_pow_right (n := 2) (by omega) h)
theorem Ring.mask_mark {s : Ring} (h : RGood s) {i : Nat} (hi : i < s.names.length) : withB s.mask i = (s.mark i).mask := by
  unfold Ring.mask
  rw [with_setB _ hi]
  refine setB_congr fun k hk => ?_
  show _ = (s.begun.set i true).getD k false
  rw [getD_setL (by rw [h.lb]; exact hi)]
  by_cases e : i = k
  · subst e; simp
  · rw [if_neg (fun e' => e e'.symm), if_neg e]
theorem Ring.mask_bit {s : Ring} {i : Nat} (hi : i < s.names.length) : bitB s.mask i = s.begun.getD i false := bit_setB (fun k => s.begun.getD k false) _ i hi

/-- Where s[1:] begins. -/
theorem tail_off2 (g o cap m : Nat) (_ : m + 1 ≤ cap) : ∃ off, (if cap = 1 then (some ⟨g, o, none⟩ : Option Addr) else some ⟨g, o + 1, none⟩) = some ⟨g, off, none⟩ ∧ (0 < m → off = o + 1) := by
  by_cases h : cap = 1
  · exact ⟨o, by rw [if_pos h], fun h2 => by omega⟩
  · exact ⟨o + 1, by rw [if_neg h], fun _ => rfl⟩
theorem Rd.tail2 {S : Nat → Prop} {w : World} {g o off m cap : Nat} {x : Int} {l : List Int} (h : Rd S w (.slice (some ⟨g, o, none⟩) (m + 1) cap) (x :: l)) (hl : l.length = m) (hoff : 0 < m → off = o + 1) : Rd S w (.slice (some ⟨g, off, none⟩) m (cap - 1)) l := by
  subst hl
  obtain ⟨b, o', c', e, hS, hcap, hc⟩ := h.formC (by simp)
  simp only [Value.slice.injEq, Option.some.injEq, Addr.mk.injEq, and_true] at e
  obtain ⟨⟨rfl, rfl⟩, -, rfl⟩ := e
  simp only [List.length_cons] at hcap
  refine ⟨_, _, rfl, .inr ⟨g, off, rfl, hS, by omega, fun j hj => ?_⟩⟩
  have h2 := hc (1 + j) (by simp; omega)
  rw [hoff (by omega), Nat.add_assoc, h2, Nat.add_comm 1 j]
  simp [List.getD, hj]

theorem aggRing : AggT Tryd.prog 25 5 := AggT.mk' (fun w => by kernel_rfl) Tryd.underlying25 rfl (by kernel_rfl)

theorem zeros_slices (n : Nat) : (madeCells (Value.slice none 0 0).cells (n * 1)).toList = (List.range n).map fun _ => Value.slice none 0 0 := by
  rw [Nat.mul_one, List.map_const', List.length_range]; exact toList_madeCells_one _ _

theorem rf_opn {S : Nat → Prop} {w : World} {us : List Value} {s : Ring} (h : RdS S w us (rf s)) : ∃ (na : Option Addr) (nc : Nat) (wa : Option Addr) (wc : Nat), us = [.slice na s.names.length nc, .int .i64 (s.mask : Int), .slice wa s.ways.length wc, .int .i64 s.leader, .int .i64 (s.sent : Int)] := by
  obtain ⟨v0, us, rfl, h0, h⟩ := h.cons_inv
  obtain ⟨v1, us, rfl, h1, h⟩ := h.cons_inv
  obtain ⟨v2, us, rfl, h2, h⟩ := h.cons_inv
  obtain ⟨v3, us, rfl, h3, h⟩ := h.cons_inv
  obtain ⟨v4, us, rfl, h4, h⟩ := h.cons_inv
  obtain rfl := h.nil_inv
  obtain ⟨na, nc, rfl⟩ := Rd.val h0
  obtain ⟨wa, wc, rfl⟩ := Rd2.val h2
  obtain rfl := h1
  obtain rfl := h3
  obtain rfl := h4
  exact ⟨_, _, _, _, rfl⟩

def RAns (S : Nat → Prop) (w : World) (s' : Ring) (err : Int) (e : Ending) (w' : World) : Prop := ∃ v, e = .returned (.tuple #[v, .int .i64 err]) ∧ AnsF S w (rf s') v w'

def NewRP (S : Nat → Prop) (w : World) (l : List Int) (e : Ending) (w' : World) : Prop :=
  ∃ us, e = .returned (.tuple #[.agg us.toArray, .int .i64 (elErr l)]) ∧ us.length = 5 ∧ us.all (fun u => u.oneCell') = true ∧ Chg NoF w w' ∧ (elErr l = 0 → RdS (More S w) w' us (rf (Ring.init l)))

theorem rf_init {S : Nat → Prop} {w : World} {l : List Int} {v0 v2 : Value} (h0 : Rd S w v0 l) (h2 : Rd2 S w v2 (List.replicate l.length [])) : RdS S w [v0, .int .i64 0, v2, .int .i64 (-1), .int .i64 0] (rf (Ring.init l)) := by
  refine ⟨h0, ?_, h2, rfl, rfl, trivial⟩
  have e : (Ring.init l).mask = 0 := by
    unfold Ring.mask
    have : ∀ n, setB (fun k => (Ring.init l).begun.getD k false) n = 0 := fun n => by
      induction n with
      | zero => rfl
      | succ n ih =>
        unfold setB; rw [ih]
        have : (Ring.init l).begun.getD n false = false := by
          simp only [Ring.init, List.getD, List.getElem?_replicate]
          split <;> rfl
        rw [this]; rfl
    exact this _
  show _ = Value.int .i64 (((Ring.init l).mask : Nat) : Int)
  rw [e]; rfl

set_option maxHeartbeats 4000000 in
set_option maxRecDepth 100000 in
theorem newRing_ref (S : Nat → Prop) (v : Value) (l : List Int) (w : World) (hr : Rd S w v l) (hlb : l.length ≤ 9223372036854775807) :
    Calls Tryd.prog 5 #[v] w (NewRP S w l) := by
  by_cases h0 : l.length = 0
  · have hE : Hid (elErr l = 5) := Lib.hid (by unfold elErr; rw [if_pos h0])
    obtain ⟨pa, ca, rfl⟩ := hr.val
    rw [h0]
    clear hr hlb h0
    have HBK := Lib.hid (Blk.alloc w [.slice none 0 0, .int .i64 0, .slice none 0 0, .int .i64 0, .int .i64 0] 25)
    have HCK := Lib.hid ((Chg.refl NoF w).alloc (.cells #[.slice none 0 0, .int .i64 0, .slice none 0 0, .int .i64 0, .int .i64 0] 25))
    go_enter Tryd.func5, Tryd.ntmps5
    go_wp2_with (refine wpList_plain rfl (fun K hK => wp_storeT aggRing _ _ rfl w.heap.size [.slice none 0 0, .int .i64 0, .slice none 0 0, .int .i64 0, .int .i64 0] _ (by rfl) (by rfl) rfl HBK.out rfl rfl ?_); intro wz hBz hcz; have HBZ := Lib.hid hBz; have HCZ := Lib.hid (HCK.out.trans2 hcz (fun i _ hi => .inr (by have hi : i = w.heap.size := hi; omega))); clear hBz hcz; refine hK _ _ ?_; clear hK)
    (try simp only [Exit.inBlock, Exit.then]); refine bodyPost_ret (results_cell2 aggRing rfl _ _ _ _ (by rfl) HBZ.out rfl) rfl ?_
    exact ⟨[.slice none 0 0, .int .i64 0, .slice none 0 0, .int .i64 0, .int .i64 0], by rw [hE.out]; rfl, rfl, rfl, HCZ.out, fun h => by rw [hE.out] at h; exact absurd h (by decide)⟩
  by_cases h5 : 5 < l.length
  · have hE : Hid (elErr l = 4) := Lib.hid (by unfold elErr; rw [if_neg h0, if_pos h5])
    obtain ⟨pa, ca, rfl⟩ := hr.val
    have hz : ((l.length : Int) == 0) = false := by rw [beq_eq_false_iff_ne]; omega
    clear hr h0
    have HBK := Lib.hid (Blk.alloc w [.slice none 0 0, .int .i64 0, .slice none 0 0, .int .i64 0, .int .i64 0] 25)
    have HCK := Lib.hid ((Chg.refl NoF w).alloc (.cells #[.slice none 0 0, .int .i64 0, .slice none 0 0, .int .i64 0, .int .i64 0] 25))
    go_enter Tryd.func5, Tryd.ntmps5
    go_wp2_with (refine wpList_plain rfl (fun K hK => wp_storeT aggRing _ _ rfl w.heap.size [.slice none 0 0, .int .i64 0, .slice none 0 0, .int .i64 0, .int .i64 0] _ (by rfl) (by rfl) rfl HBK.out rfl rfl ?_); intro wz hBz hcz; have HBZ := Lib.hid hBz; have HCZ := Lib.hid (HCK.out.trans2 hcz (fun i _ hi => .inr (by have hi : i = w.heap.size := hi; omega))); clear hBz hcz; refine hK _ _ ?_; clear hK)
    (try simp only [Exit.inBlock, Exit.then]); refine bodyPost_ret (results_cell2 aggRing rfl _ _ _ _ (by rfl) HBZ.out rfl) rfl ?_
    exact ⟨[.slice none 0 0, .int .i64 0, .slice none 0 0, .int .i64 0, .int .i64 0], by rw [hE.out]; rfl, rfl, rfl, HCZ.out, fun h => by rw [hE.out] at h; exact absurd h (by decide)⟩
  obtain ⟨b, off, c, rfl, _, hcap, hc⟩ := hr.formC (by omega)
  have HR := Lib.hid hr
  have HC := Lib.hid hc
  have HEE : Hid (elErr l = firstErr (chkName l) l.length) := Lib.hid (by unfold elErr; rw [if_neg h0, if_neg h5])
  obtain ⟨n, hN⟩ : ∃ n, Hid (l.length = n) := ⟨_, Lib.hid rfl⟩
  have hz : ((l.length : Int) == 0) = false := by rw [beq_eq_false_iff_ne]; omega
  rw [hN.out] at HR HEE h0 h5 hz hcap ⊢
  clear hr hc hlb
  have H0 := Lib.hid h0
  clear h0
  have HBK := Lib.hid (Blk.alloc w [.slice none 0 0, .int .i64 0, .slice none 0 0, .int .i64 0, .int .i64 0] 25)
  have HCK := Lib.hid ((Chg.refl NoF w).alloc (.cells #[.slice none 0 0, .int .i64 0, .slice none 0 0, .int .i64 0, .int .i64 0] 25))
  go_enter Tryd.func5, Tryd.ntmps5
  go_wp2_with fail
  generalize w.alloc _ = w1 at *
  go_loopw [4] (fun i wr => ∃ k : Nat, k ≤ n ∧ i = .int .i64 k ∧ Hid (∀ j, j < k → chkName l j = 0) ∧ Hid (Blk wr w.heap.size [.slice none 0 0, .int .i64 0, .slice none 0 0, .int .i64 0, .int .i64 0]) ∧ Hid (Chg NoF w wr)) (fun i _ => n - (intOf i).toNat)
  case atStart => exact ⟨0, Nat.zero_le _, rfl, Lib.hid (fun j hj => absurd hj (Nat.not_lt_zero _)), HBK, HCK⟩
  case round =>
    clear HBK HCK
    obtain ⟨k, hkn, rfl, HB, HBK, HCK⟩ := hrel
    by_cases hlt : k < n
    · obtain ⟨x, hX⟩ : ∃ x, Hid (l.getD k 0 = x) := ⟨_, Lib.hid rfl⟩
      have hcell : wr.cell? ⟨b, off + k, none⟩ = some (.int .i64 x) := HCK.out.cell_some (by rw [HC.out k (by rw [hN.out]; exact hlt), hX.out]) (fun h => h)
      have hk0 : (0 : Int) ≤ k := by omega
      have hk1 : (k : Int) < n := by omega
      have hk2 : (k : Int) ≤ c := by omega
      cases hin : inB x 1 1000 with
      | false =>
        have hck : chkName l k = 1 := by unfold chkName; rw [hX.out, if_pos hin]
        have hE : Hid (elErr l = 1) := Lib.hid (by rw [HEE.out, firstErr_at (by rw [hck]; omega) hlt HB.out, hck])
        clear hck
        go_wp2_with fail
        refine (ref6In_any _ _ _ _).mono ?_
        rintro e w2 ⟨rfl, rfl⟩
        rw [hin]
        clear hcell
        go_wp2_with (refine wpList_plain rfl (fun K hK => wp_storeT aggRing _ _ rfl w.heap.size [.slice none 0 0, .int .i64 0, .slice none 0 0, .int .i64 0, .int .i64 0] _ (by rfl) (by rfl) rfl HBK.out rfl rfl ?_); intro wz hBz hcz; have HBZ := Lib.hid hBz; have HCZ := Lib.hid (HCK.out.trans2 hcz (fun i _ hi => .inr (by have hi : i = w.heap.size := hi; omega))); clear hBz hcz; refine hK _ _ ?_; clear hK)
        (try simp only [Exit.inBlock, Exit.then]); refine bodyPost_ret (results_cell2 aggRing rfl _ _ _ _ (by rfl) HBZ.out rfl) rfl ?_
        exact ⟨[.slice none 0 0, .int .i64 0, .slice none 0 0, .int .i64 0, .int .i64 0], by rw [hE.out]; rfl, rfl, rfl, HCZ.out, fun h => by rw [hE.out] at h; exact absurd h (by decide)⟩
      | true =>
        have hcell2 : wr.drew.cell? ⟨b, off + k, none⟩ = some (.int .i64 x) := hcell
        have HCT := Lib.hid (has_ref S _ (l.take k) x wr.drew ((HR.out.keep HCK.out (fun _ _ h => h)).keep ((Chg.refl NoF wr).drew) (fun _ _ h => h) |>.take k (by rw [hN.out]; omega) c (by omega)) (by rw [List.length_take, hN.out]; omega))
        cases hct : (l.take k).contains x with
        | true =>
          rw [hct] at HCT
          have hck : chkName l k = 6 := by unfold chkName; rw [hX.out, if_neg (by simp [hin]), if_pos hct]
          have hE : Hid (elErr l = 6) := Lib.hid (by rw [HEE.out, firstErr_at (by rw [hck]; omega) hlt HB.out, hck])
          clear hck hct
          go_wp2_with fail
          refine (ref6In_any _ _ _ _).mono ?_
          rintro e w2 ⟨rfl, rfl⟩
          rw [hin]
          go_wp2_with fail
          refine wp_region_plan (Chg NoF wr) 7 [(0,true),(1,true),(2,true),(3,true),(4,true),(5,true),(6,true),(7,false)] mixed (by kernel_rfl) (Chg.refl _ _).drew ?_
          simp only [planOps, List.map_cons, List.map_nil, List.getElem?_cons_zero, List.getElem?_cons_succ, Option.getD_some]
          generalize hops : List.toArray _ = ops
          iterate 7 (refine wpPlan_quiet (v := ?_) rfl (fun _ _ _ h => h) (by intro w1 hS; have s0 := hS.cell_some hcell (fun h => h); clear hS; go_simp; with_reducible rfl) ?_; (simp only [Act.put, List.setIfInBounds_toArray, List.set_cons_zero, List.set_cons_succ]))
          refine wpPlan_loud rfl (fun K hK => ?_)
          go_simp
          refine HCT.out.mono ?_
          rintro e w3 ⟨rfl, rfl⟩
          refine hK _ _ (fun h => absurd rfl h) ?_
          clear hK K
          (try simp only [Act.put, List.setIfInBounds_toArray, List.set_cons_zero, List.set_cons_succ])
          clear hops
          refine wpPlan_nil ?_
          have HBK := Lib.hid (HBK.out.keep ((Chg.refl NoF wr).drew) (fun h => h))
          have HCK := Lib.hid (HCK.out.drew)
          clear hcell hcell2 HCT
          go_wp2_with (refine wpList_plain rfl (fun K hK => wp_storeT aggRing _ _ rfl w.heap.size [.slice none 0 0, .int .i64 0, .slice none 0 0, .int .i64 0, .int .i64 0] _ (by rfl) (by rfl) rfl HBK.out rfl rfl ?_); intro wz hBz hcz; have HBZ := Lib.hid hBz; have HCZ := Lib.hid (HCK.out.trans2 hcz (fun i _ hi => .inr (by have hi : i = w.heap.size := hi; omega))); clear hBz hcz; refine hK _ _ ?_; clear hK)
          (try simp only [Exit.inBlock, Exit.then]); refine bodyPost_ret (results_cell2 aggRing rfl _ _ _ _ (by rfl) HBZ.out rfl) rfl ?_
          exact ⟨[.slice none 0 0, .int .i64 0, .slice none 0 0, .int .i64 0, .int .i64 0], by rw [hE.out]; rfl, rfl, rfl, HCZ.out, fun h => by rw [hE.out] at h; exact absurd h (by decide)⟩
        | false =>
          rw [hct] at HCT
          have hck : chkName l k = 0 := by unfold chkName; rw [hX.out, if_neg (by simp [hin]), if_neg (by rw [hct]; simp)]
          have HB' : Hid (∀ j, j < k + 1 → chkName l j = 0) := Lib.hid fun j hj => by
            by_cases e : j = k
            · subst e; exact hck
            · exact HB.out j (by omega)
          have HKN : Hid (k + 1 ≤ n) := Lib.hid hlt
          clear hck hct
          go_wp2_with fail
          refine (ref6In_any _ _ _ _).mono ?_
          rintro e w2 ⟨rfl, rfl⟩
          rw [hin]
          go_wp2_with fail
          refine wp_region_plan (Chg NoF wr) 7 [(0,true),(1,true),(2,true),(3,true),(4,true),(5,true),(6,true),(7,false)] mixed (by kernel_rfl) (Chg.refl _ _).drew ?_
          simp only [planOps, List.map_cons, List.map_nil, List.getElem?_cons_zero, List.getElem?_cons_succ, Option.getD_some]
          generalize hops : List.toArray _ = ops
          iterate 7 (refine wpPlan_quiet (v := ?_) rfl (fun _ _ _ h => h) (by intro w1 hS; have s0 := hS.cell_some hcell (fun h => h); clear hS; go_simp; with_reducible rfl) ?_; (simp only [Act.put, List.setIfInBounds_toArray, List.set_cons_zero, List.set_cons_succ]))
          refine wpPlan_loud rfl (fun K hK => ?_)
          go_simp
          refine HCT.out.mono ?_
          rintro e w3 ⟨rfl, rfl⟩
          refine hK _ _ (fun h => absurd rfl h) ?_
          clear hK K
          (try simp only [Act.put, List.setIfInBounds_toArray, List.set_cons_zero, List.set_cons_succ])
          clear hops
          refine wpPlan_nil ?_
          have HBK2 := Lib.hid (HBK.out.keep ((Chg.refl NoF wr).drew) (fun h => h))
          have HCK2 := Lib.hid (HCK.out.drew)
          clear hcell hcell2 HCT
          go_wp2
          go_roundw
          case rel => exact ⟨k + 1, HKN.out, by go_num, HB', HBK2, HCK2⟩
          case measure => have := HKN.out; simp [intOf]; omega
    · obtain rfl : k = n := by omega
      have hE : Hid (elErr l = 0) := Lib.hid (by rw [HEE.out]; exact firstErr_none HB.out)
      have hkn0 : ¬ (k : Int) < k := by omega
      have HRW := Lib.hid (HR.out.keep HCK.out (fun _ _ h => h))
      clear hlt
      have HSZ0 : Hid (w.heap.size < wr.heap.size) := Lib.hid HBK.out.lt
      go_wp2_with (first
        | (at_make; refine wpList_plain rfl (fun K hK => wp_make (P := Tryd.prog) 23 _ _ rfl 22 (.slice none 0 0) 1 24 infoSl Tryd.underlying23 .i64 .i64 k (by rfl) (by rfl) (by omega) (by omega) ?_); intro gG w3 hgG own1 hc1 hlt1; have HGG := Lib.hid hgG; clear hgG; have HB3 := Lib.hid (HBK.out.keep hc1 (fun h => h)); refine hK _ _ ?_; clear hK)
        | (refine wpList_plain rfl (fun K hK => wp_storeT aggRing _ _ rfl w.heap.size [.slice (some ⟨b, off, none⟩) k c, .int .i64 0, .slice (some ⟨gG, 0, none⟩) k k, .int .i64 (-1), .int .i64 0] _ (by rfl) (by rfl) rfl HB3.out rfl rfl ?_); intro w4 hB2 hcB; have HB4 := Lib.hid hB2; have HC4 := Lib.hid hcB; clear hB2 hcB; refine hK _ _ ?_; clear hK))
      (try simp only [Exit.inBlock, Exit.then]); refine bodyPost_ret (results_cell2 aggRing rfl _ _ w.heap.size _ (by rfl) HB4.out rfl) rfl ?_
      have hg := HGG.out
      have hcw : Chg NoF w w3 := HCK.out.trans hc1
      refine ⟨_, by rw [hE.out]; rfl, rfl, rfl, hcw.trans2 HC4.out (fun i _ hi => .inr (by have hi : i = w.heap.size := hi; omega)), fun _ => rf_init ?_ ?_⟩
      · have hcv : Rd (fun b => S b ∧ b < w.heap.size) w (.slice (some ⟨b, off, none⟩) k c) l := HR.out.mono (fun b hb h => ⟨h, hb⟩)
        exact ((hcv.keep hcw (fun _ _ h => h)).keep HC4.out (fun b hb e => by have e : b = w.heap.size := e; have := hb.2; omega)).mono (fun b _ hb => .inl hb.1)
      · rw [zeros_slices] at own1
        have := HSZ0.out
        refine Rd2.ofOwns (n := k) (HC4.out.row own1 (fun b hb e => by
          obtain rfl : gG = b := by simpa [Value.ownBlock] using hb
          have e : gG = w.heap.size := e
          omega)) (by rw [List.length_replicate, hN.out]) (fun b hb => .inr (by
          obtain rfl : gG = b := by simpa [Value.ownBlock] using hb
          omega)) (fun j hj => ?_)
        rw [List.length_replicate, hN.out] at hj
        have e1 : (List.replicate l.length ([] : List Int)).getD j [] = [] := by
          simp only [List.getD, List.getElem?_replicate]
          split <;> rfl
        rw [e1]
        exact ⟨.slice none 0 0, by simp [hj], Rd.nil _ _, by simp⟩

/-- The ring behind a name that is sent on. -/
theorem rf_onward {s : Ring} (hs : RGood s) {i : Nat} (hi : i < s.names.length) (x : Int) : rf ((s.mark i).send i x) = [.l s.names, .i ((withB s.mask i : Nat) : Int), .r (s.ways.set (s.next i) (s.ways.getD (s.next i) [] ++ [x])), .i s.leader, .i ((s.sent : Int) + 1)] := by
  rw [Ring.mask_mark hs hi]
  show [Fd.l s.names, .i ((s.mark i).send i x).mask, _, _, _] = _
  have e : ((s.mark i).send i x).mask = (s.mark i).mask := rfl
  rw [e]
  show [_, _, _, _, Fd.i (((s.sent + 1 : Nat) : Int))] = _
  rw [Int.natCast_add]; rfl

set_option maxHeartbeats 8000000 in
set_option maxRecDepth 100000 in
theorem onward_ref (S : Nat → Prop) (w : World) (us : List Value) (s : Ring) (h : RdS S w us (rf s)) (hs : RGood s) (i : Nat) (hi : i < s.names.length) (x : Int) :
    Calls Tryd.prog 30 #[.agg us.toArray, .int .i64 i, .int .i64 x] w (fun e w' => ∃ v, e = .returned v ∧ AnsF S w (rf ((s.mark i).send i x)) v w') := by
  obtain ⟨na, nc, wa, wc, rfl⟩ := rf_opn h
  have HU := Lib.hid h
  have HS := Lib.hid hs
  obtain ⟨n, HN⟩ : ∃ n, Hid (s.names.length = n) := ⟨_, Lib.hid rfl⟩
  obtain ⟨m, HM⟩ : ∃ m, Hid (s.mask = m) := ⟨_, Lib.hid rfl⟩
  obtain ⟨ld, HLD⟩ : ∃ ld, Hid (s.leader = ld) := ⟨_, Lib.hid rfl⟩
  obtain ⟨sn, HSN⟩ : ∃ sn, Hid (s.sent = sn) := ⟨_, Lib.hid rfl⟩
  have hn0 := hs.n0
  have hn5 := hs.n5
  have hst := hs.st
  have hm := Ring.mask_lt hn5
  rw [hs.lw, HN.out, HM.out, HLD.out, HSN.out] at HU ⊢
  rw [HM.out] at hm
  rw [HN.out] at hn0 hn5
  rw [HSN.out] at hst
  clear h hs
  have HIS := Lib.hid hi
  rw [HN.out] at hi
  obtain ⟨j, HJ⟩ : ∃ j, Hid (s.next i = j) := ⟨_, Lib.hid rfl⟩
  have hjn : j < n := by rw [← HJ.out]; unfold Ring.next; rw [HN.out]; exact Nat.mod_lt _ hn0
  have hjw : Int.tmod ((i : Int) + 1) n = (j : Int) := by rw [← HJ.out]; unfold Ring.next; rw [HN.out]; rfl
  have hi1 : (i : Int) + 1 ≤ 5 := by omega
  have hnz : ((n : Int) == 0) = false := by rw [beq_eq_false_iff_ne]; omega
  have HRF := Lib.hid (rf_onward HS.out HIS.out x)
  rw [HRF.out, HM.out, HSN.out, HJ.out]
  obtain ⟨rw', HRW⟩ : ∃ r, Hid (withB m i = r) := ⟨_, Lib.hid rfl⟩
  have HWI := Lib.hid (fun wq => with_any m i (by omega) (by omega) wq)
  rw [HRW.out] at HWI ⊢
  go_enter Tryd.func30, Tryd.ntmps30
  go_upto_if 2 with fail
  have HB := Lib.hid (Bx.start w [.slice na n nc, .int .i64 (m : Int), .slice wa n wc, .int .i64 ld, .int .i64 (sn : Int)] [.slice none 0 0, .int .i64 0, .slice none 0 0, .int .i64 0, .int .i64 0] (rf s) HU.out 25 25)
  generalize ((w.alloc _).alloc _) = w2 at *
  clear hi1 hjw hnz
  have c2 : w2.cell? ⟨w.heap.size, 2, none⟩ = some (.slice wa n wc) := HB.out.ref.bB.cell 2
  have HWY : Hid (Rd2 (In S w w.heap.size (w.heap.size + 1)) w2 (.slice wa n wc) s.ways) := Lib.hid (HB.out.at 2 rfl rfl)
  obtain ⟨bG, oG, cG, u, ev, dr, hru, hrl⟩ := HWY.out.at (Chg.refl NoF w2) (fun _ _ h => h) (j := j) (by rw [HS.out.lw, HN.out]; exact hjn)
  rw [HS.out.lw, HN.out] at ev
  simp only [Value.slice.injEq] at ev
  obtain ⟨rfl, -, rfl⟩ := ev
  have HRU := Lib.hid hru
  obtain ⟨ua, uc, rfl⟩ := hru.val
  obtain ⟨gl, HGL⟩ : ∃ gl, Hid ((s.ways.getD j []).length = gl) := ⟨_, Lib.hid rfl⟩
  have HGB : Hid (gl ≤ 1000) := Lib.hid (by rw [← HGL.out]; have := HS.out.wy j; have := HS.out.st; omega)
  rw [HGL.out] at dr HRU
  have hj1 : (j : Int) < n := by omega
  clear hru hrl
  refine wp_region_plan (Chg NoF w2) 12 [(0,true),(1,true),(2,true),(3,true),(4,true),(5,true),(6,true),(7,true),(8,true),(9,false),(10,false),(11,true),(12,false)] mixed (by kernel_rfl) (Chg.refl _ _).drew ?_
  simp only [planOps, List.map_cons, List.map_nil, List.getElem?_cons_zero, List.getElem?_cons_succ, Option.getD_some]
  generalize hops : List.toArray _ = ops
  iterate 9 (refine wpPlan_quiet (v := ?_) rfl (fun _ _ _ h => h) (by intro w1 hS; have s0 := hS.cell_some c2 (fun h => h); have s1 := hS.cell_some dr (fun h => h); clear hS; go_simp; with_reducible rfl) ?_; (simp only [Act.put, List.setIfInBounds_toArray, List.set_cons_zero, List.set_cons_succ]))
  refine wpPlan_loud rfl (fun K hK => ?_)
  go_simp
  refine (more_ref (In S w w.heap.size (w.heap.size + 1)) _ (s.ways.getD j []) x _ (HRU.out.keep ((Chg.refl NoF w2).drew) (fun _ _ h => h)) (by rw [HGL.out]; have := HGB.out; omega)).mono ?_
  rintro e w3 ⟨v3, rfl, hr3, hc3⟩
  have HL3 : Hid ((s.ways.getD j [] ++ [x]).length = gl + 1) := Lib.hid (by rw [List.length_append, HGL.out]; rfl)
  obtain ⟨a3, c3, e3⟩ := hr3.val
  rw [HL3.out] at e3
  subst e3
  have HC3 : Hid (Chg NoF w2 w3) := Lib.hid (((Chg.refl NoF w2).drew).trans hc3)
  have HX3 : Hid (Rd (In S w w.heap.size (w.heap.size + 1)) w3 (.slice a3 (gl + 1) c3) (s.ways.getD j [] ++ [x])) := Lib.hid (HB.out.told (f := .l _) hr3)
  refine hK _ _ (fun _ => HC3.out) ?_
  clear hK K hr3 hc3
  (try simp only [Act.put, List.setIfInBounds_toArray, List.set_cons_zero, List.set_cons_succ])
  refine wpPlan_loud rfl (fun K hK => ?_)
  go_simp
  refine (rows_ref (In S w w.heap.size (w.heap.size + 1)) _ _ s.ways j (s.ways.getD j [] ++ [x]) w3 (HWY.out.keep HC3.out (fun _ _ h => h)) HX3.out (by rw [HL3.out]; have := HGB.out; omega) (by rw [HS.out.lw, HN.out]; exact hjn) (by rw [HS.out.lw, HN.out]; omega)).mono ?_
  rintro e w4 ⟨v4, rfl, hr4, hc4⟩
  have HL4 : Hid ((s.ways.set j (s.ways.getD j [] ++ [x])).length = n) := Lib.hid (by rw [List.length_set, HS.out.lw, HN.out])
  obtain ⟨a4, c4, e4⟩ := hr4.val
  rw [HL4.out] at e4
  subst e4
  have HC4 : Hid (Chg NoF w2 w4) := Lib.hid (HC3.out.trans hc4)
  have HB4 := Lib.hid (HB.out.no HC4.out)
  have HX4 : Hid (RdF (In S w w.heap.size (w.heap.size + 1)) w4 (.slice a4 n c4) (.r (s.ways.set j (s.ways.getD j [] ++ [x])))) := Lib.hid ((HB.out.no HC3.out).told (f := .r _) hr4)
  refine hK _ _ (fun _ => HC4.out) ?_
  clear hK K hr4 hc4
  (try simp only [Act.put, List.setIfInBounds_toArray, List.set_cons_zero, List.set_cons_succ])
  (refine wpPlan_quiet (v := ?_) rfl (fun _ _ _ h => h) (by intro w1 hS; clear hS; go_simp; with_reducible rfl) ?_; (simp only [Act.put, List.setIfInBounds_toArray, List.set_cons_zero, List.set_cons_succ]))
  refine wpPlan_loud rfl (fun K hK => ?_)
  have s2 : w4.cell? ⟨w.heap.size, 2, none⟩ = some (.slice (some ⟨bG, oG, none⟩) n wc) := HB4.out.ref.bB.cell 2
  have f2 := HB4.out.ref.bB.frozen 2
  go_simp
  refine hK _ _ (fun h => absurd rfl h) ?_
  clear hK K
  clear hops
  refine wpPlan_nil ?_
  have HB5 := Lib.hid (HB4.out.set 2 _ _ HX4.out)
  clear s2 f2 c2 dr HB HB4 HX4 HX3 HC3 HC4 HWY
  generalize w4.setCell _ _ = w5 at *
  have c1 : w5.cell? ⟨w.heap.size, 1, none⟩ = some (.int .i64 m) := HB5.out.ref.bB.cell 1
  have f1 := HB5.out.ref.bB.frozen 1
  have d4 : w5.cell? ⟨w.heap.size, 4, none⟩ = some (.int .i64 sn) := HB5.out.ref.bB.cell 4
  go_wp2_with fail
  refine (HWI.out w5).mono ?_
  rintro e w6 ⟨rfl, rfl⟩
  have HB6 := Lib.hid (HB5.out.set 1 (.int .i64 rw') (.i rw') rfl)
  have f4 := HB6.out.ref.bB.frozen 4
  have g4 : (w5.setCell ⟨w.heap.size, 1, none⟩ (.int .i64 rw')).cell? ⟨w.heap.size, 4, none⟩ = some (.int .i64 sn) := HB6.out.ref.bB.cell 4
  have HB7 := Lib.hid (HB6.out.set 4 (.int .i64 ((sn : Int) + 1)) (.i ((sn : Int) + 1)) rfl)
  clear HB6 HB5
  go_wp2_with (first | (refine wpList_plain rfl (fun K hK => wp_loadT aggRing _ rfl w.heap.size [.slice na n nc, .int .i64 (rw' : Int), .slice a4 n c4, .int .i64 ld, .int .i64 ((sn : Int) + 1)] (by rfl) HB7.out.ref.bB rfl ?_); refine hK _ _ ?_; clear hK) | (refine wpList_plain rfl (fun K hK => wp_storeT aggRing _ _ rfl (w.heap.size + 1) [.slice na n nc, .int .i64 (rw' : Int), .slice a4 n c4, .int .i64 ld, .int .i64 ((sn : Int) + 1)] _ (by rfl) (by rfl) rfl HB7.out.ref.bR rfl rfl ?_); intro wz hBz hcz; have HB8 := Lib.hid (HB7.out.setR hBz hcz); clear hBz hcz; refine hK _ _ ?_; clear hK))
  (try simp only [Exit.inBlock, Exit.then]); refine bodyPost_ret (results_cell1 aggRing rfl _ _ _ _ (by rfl) HB8.out.ref.bR rfl) rfl ?_
  exact ⟨_, rfl, HB8.out.ans⟩

set_option maxHeartbeats 8000000 in
set_option maxRecDepth 100000 in
theorem begin_ref (S : Nat → Prop) (w : World) (us : List Value) (s : Ring) (h : RdS S w us (rf s)) (hs : RGood s) (i : Int) :
    Calls Tryd.prog 8 #[.agg us.toArray, .int .i64 i] w (RAns S w (s.beg i) (s.bgErr i)) := by
  obtain ⟨na, nc, wa, wc, rfl⟩ := rf_opn h
  have HU := Lib.hid h
  have HS := Lib.hid hs
  obtain ⟨n, HN⟩ : ∃ n, Hid (s.names.length = n) := ⟨_, Lib.hid rfl⟩
  obtain ⟨m, HM⟩ : ∃ m, Hid (s.mask = m) := ⟨_, Lib.hid rfl⟩
  obtain ⟨ld, HLD⟩ : ∃ ld, Hid (s.leader = ld) := ⟨_, Lib.hid rfl⟩
  obtain ⟨sn, HSN⟩ : ∃ sn, Hid (s.sent = sn) := ⟨_, Lib.hid rfl⟩
  have hn0 := hs.n0
  have hn5 := hs.n5
  have hst := hs.st
  have hm := Ring.mask_lt hn5
  rw [hs.lw, HN.out, HM.out, HLD.out, HSN.out] at HU ⊢
  rw [HM.out] at hm
  rw [HN.out] at hn0 hn5
  rw [HSN.out] at hst
  clear h hs
  have BAD : Hid (∀ x (w' : World), s.bgErr i = x → x ≠ 0 → Bx S w w' w.heap.size (w.heap.size + 1) [.slice na n nc, .int .i64 (m : Int), .slice wa n wc, .int .i64 ld, .int .i64 (sn : Int)] [.slice na n nc, .int .i64 (m : Int), .slice wa n wc, .int .i64 ld, .int .i64 (sn : Int)] (rf s) → RAns S w (s.beg i) (s.bgErr i) (.returned (.tuple #[.agg #[.slice na n nc, .int .i64 (m : Int), .slice wa n wc, .int .i64 ld, .int .i64 (sn : Int)], .int .i64 x])) w') := Lib.hid fun x w' he hx hR => by
    have h1 : s.beg i = s := by unfold Ring.beg; rw [if_neg (by rw [he]; exact hx)]
    rw [h1, he]
    exact ⟨_, rfl, hR.ans⟩
  have hwn : wrap64 ((n : Int) - 1) = (n : Int) - 1 := IntWalk.wrap64_in _ (by omega)
  have HHAS : Hid (inB i 0 ((n : Int) - 1) = s.has i) := Lib.hid (by rw [← HN.out]; rfl)
  cases hh : s.has i with
  | false =>
    have HE : Hid (s.bgErr i = 1) := Lib.hid (by unfold Ring.bgErr; rw [if_pos hh])
    rw [hh] at HHAS
    clear hh
    go_enter Tryd.func8, Tryd.ntmps8
    go_wp2_with fail
    refine (ref6In_any _ _ _ _).mono ?_
    rintro e w2 ⟨rfl, rfl⟩
    rw [HHAS.out]
    have HB := Lib.hid (Bx.start w [.slice na n nc, .int .i64 (m : Int), .slice wa n wc, .int .i64 ld, .int .i64 (sn : Int)] [.slice none 0 0, .int .i64 0, .slice none 0 0, .int .i64 0, .int .i64 0] (rf s) HU.out 25 25)
    generalize ((w.alloc _).alloc _) = w2 at *
    go_wp2_with (first | (refine wpList_plain rfl (fun K hK => wp_loadT aggRing _ rfl w.heap.size [.slice na n nc, .int .i64 (m : Int), .slice wa n wc, .int .i64 ld, .int .i64 (sn : Int)] (by rfl) HB.out.ref.bB rfl ?_); refine hK _ _ ?_; clear hK) | (refine wpList_plain rfl (fun K hK => wp_storeT aggRing _ _ rfl (w.heap.size + 1) [.slice na n nc, .int .i64 (m : Int), .slice wa n wc, .int .i64 ld, .int .i64 (sn : Int)] _ (by rfl) (by rfl) rfl HB.out.ref.bR rfl rfl ?_); intro wz hBz hcz; have HB3 := Lib.hid (HB.out.setR hBz hcz); clear hBz hcz; refine hK _ _ ?_; clear hK))
    (try simp only [Exit.inBlock, Exit.then]); refine bodyPost_ret (results_cell2 aggRing rfl _ _ _ _ (by rfl) HB3.out.ref.bR rfl) rfl ?_
    exact BAD.out 1 _ HE.out (by omega) HB3.out
  | true =>
    have hib : 0 ≤ i ∧ i ≤ (s.names.length : Int) - 1 := by simpa [Ring.has, inB] using hh
    obtain ⟨k, rfl⟩ := Int.eq_ofNat_of_zero_le hib.1
    have hk : k < n := by rw [← HN.out]; omega
    have HKS : Hid (k < s.names.length) := Lib.hid (by rw [HN.out]; exact hk)
    rw [hh] at HHAS
    clear hib
    cases hbb : s.begun.getD k false with
    | true =>
      have HE : Hid (s.bgErr k = 7) := Lib.hid (by unfold Ring.bgErr; rw [if_neg (by rw [hh]; simp), Int.toNat_natCast, if_pos hbb])
      have HBIT := Lib.hid (fun wq => bit_any m k (by omega) (by omega) wq)
      rw [show bitB m k = true by rw [← HM.out, Ring.mask_bit HKS.out, hbb]] at HBIT
      clear hh hbb
      go_enter Tryd.func8, Tryd.ntmps8
      go_wp2_with fail
      refine (ref6In_any _ _ _ _).mono ?_
      rintro e w2 ⟨rfl, rfl⟩
      rw [HHAS.out]
      have HB := Lib.hid (Bx.start w [.slice na n nc, .int .i64 (m : Int), .slice wa n wc, .int .i64 ld, .int .i64 (sn : Int)] [.slice none 0 0, .int .i64 0, .slice none 0 0, .int .i64 0, .int .i64 0] (rf s) HU.out 25 25)
      generalize ((w.alloc _).alloc _) = w2 at *
      have c1 : w2.cell? ⟨w.heap.size, 1, none⟩ = some (.int .i64 m) := HB.out.ref.bB.cell 1
      go_wp2_with fail
      refine (HBIT.out w2).mono ?_
      rintro e w3 ⟨rfl, rfl⟩
      clear c1
      go_wp2_with (first | (refine wpList_plain rfl (fun K hK => wp_loadT aggRing _ rfl w.heap.size [.slice na n nc, .int .i64 (m : Int), .slice wa n wc, .int .i64 ld, .int .i64 (sn : Int)] (by rfl) HB.out.ref.bB rfl ?_); refine hK _ _ ?_; clear hK) | (refine wpList_plain rfl (fun K hK => wp_storeT aggRing _ _ rfl (w.heap.size + 1) [.slice na n nc, .int .i64 (m : Int), .slice wa n wc, .int .i64 ld, .int .i64 (sn : Int)] _ (by rfl) (by rfl) rfl HB.out.ref.bR rfl rfl ?_); intro wz hBz hcz; have HB3 := Lib.hid (HB.out.setR hBz hcz); clear hBz hcz; refine hK _ _ ?_; clear hK))
      (try simp only [Exit.inBlock, Exit.then]); refine bodyPost_ret (results_cell2 aggRing rfl _ _ _ _ (by rfl) HB3.out.ref.bR rfl) rfl ?_
      exact BAD.out 7 _ HE.out (by omega) HB3.out
    | false =>
      have HE : Hid (s.bgErr k = 0) := Lib.hid (by unfold Ring.bgErr; rw [if_neg (by rw [hh]; simp), Int.toNat_natCast, if_neg (by rw [hbb]; simp)])
      have HBIT := Lib.hid (fun wq => bit_any m k (by omega) (by omega) wq)
      rw [show bitB m k = false by rw [← HM.out, Ring.mask_bit HKS.out, hbb]] at HBIT
      have HDO : Hid (s.beg k = (s.mark k).send k (s.name k)) := Lib.hid (by unfold Ring.beg; rw [if_pos HE.out, Int.toNat_natCast])
      obtain ⟨x, HX⟩ : ∃ x, Hid (s.name k = x) := ⟨_, Lib.hid rfl⟩
      rw [HX.out] at HDO
      have HON := Lib.hid (fun wq (hq : RdS (In S w w.heap.size (w.heap.size + 1)) wq [.slice na n nc, .int .i64 (m : Int), .slice wa n wc, .int .i64 ld, .int .i64 (sn : Int)] (rf s)) => onward_ref _ wq _ s hq HS.out k HKS.out x)
      have hk1 : (k : Int) < n := by omega
      clear hh hbb
      go_enter Tryd.func8, Tryd.ntmps8
      go_wp2_with fail
      refine (ref6In_any _ _ _ _).mono ?_
      rintro e w2 ⟨rfl, rfl⟩
      rw [HHAS.out]
      have HB := Lib.hid (Bx.start w [.slice na n nc, .int .i64 (m : Int), .slice wa n wc, .int .i64 ld, .int .i64 (sn : Int)] [.slice none 0 0, .int .i64 0, .slice none 0 0, .int .i64 0, .int .i64 0] (rf s) HU.out 25 25)
      generalize ((w.alloc _).alloc _) = w2 at *
      have c1 : w2.cell? ⟨w.heap.size, 1, none⟩ = some (.int .i64 m) := HB.out.ref.bB.cell 1
      have c0 : w2.cell? ⟨w.heap.size, 0, none⟩ = some (.slice na n nc) := HB.out.ref.bB.cell 0
      have HNM : Hid (Rd (In S w w.heap.size (w.heap.size + 1)) w2 (.slice na n nc) s.names) := Lib.hid (HB.out.at 0 rfl rfl)
      obtain ⟨bN, oN, cN, eN, hNS, hcN⟩ := HNM.out.form (by rw [HN.out]; omega)
      rw [HN.out] at eN
      simp only [Value.slice.injEq] at eN
      obtain ⟨rfl, -, rfl⟩ := eN
      have dN := hcN k HKS.out
      rw [show s.names.getD k 0 = x from HX.out] at dN
      have HNB := Lib.hid hNS
      clear hcN hNS
      go_wp2_with fail
      refine (HBIT.out w2).mono ?_
      rintro e w3 ⟨rfl, rfl⟩
      clear c1
      go_wp2_with fail
      refine wp_region_plan (Chg (fun b => b = w.heap.size + 1) w2) 10 [(0,true),(1,true),(2,true),(3,true),(4,true),(5,true),(6,true),(7,false),(8,false),(9,true)] mixed (by kernel_rfl) (Chg.refl _ _).drew ?_
      simp only [planOps, List.map_cons, List.map_nil, List.getElem?_cons_zero, List.getElem?_cons_succ, Option.getD_some]
      generalize hops : List.toArray _ = ops
      refine wpPlan_quiet rfl (fun _ _ _ h => h) (fun w1 hS => quiet_loadT aggRing _ rfl w.heap.size [.slice (some ⟨bN, oN, none⟩) n nc, .int .i64 (m : Int), .slice wa n wc, .int .i64 ld, .int .i64 (sn : Int)] (by rfl) (HB.out.ref.bB.keep hS (fun h => by have h : w.heap.size = w.heap.size + 1 := h; omega)) rfl) ?_
      (simp only [Act.put, List.setIfInBounds_toArray, List.set_cons_zero, List.set_cons_succ])
      iterate 6 (refine wpPlan_quiet (v := ?_) rfl (fun _ _ _ h => h) (by intro w1 hS; have s0 := hS.cell_some c0 (fun h => by have h : w.heap.size = w.heap.size + 1 := h; omega); have s1 := hS.cell_some dN (fun h => (HB.out.notB _ HNB.out).2 h); clear hS; go_simp; with_reducible rfl) ?_; (simp only [Act.put, List.setIfInBounds_toArray, List.set_cons_zero, List.set_cons_succ]))
      refine wpPlan_loud rfl (fun K hK => ?_)
      go_simp
      refine (HON.out w2.drew (HB.out.fld.keep ((Chg.refl NoF w2).drew) (fun _ _ h => h))).mono ?_
      rintro e w8 ⟨v8, rfl, us8, rfl, hr8, hc8⟩
      have HC8 : Hid (Chg NoF w2 w8) := Lib.hid (((Chg.refl NoF w2).drew).trans hc8)
      have HR8 := Lib.hid ((HB.out.no ((Chg.refl NoF w2).drew)).toldS hr8)
      have HB8 := Lib.hid (HB.out.no HC8.out)
      refine hK _ _ (fun _ => HC8.out.ofNo) ?_
      clear hK K hr8 hc8
      (try simp only [Act.put, List.setIfInBounds_toArray, List.set_cons_zero, List.set_cons_succ])
      refine wpPlan_loud rfl (fun K hK => ?_)
      refine wp_storeT aggRing _ _ rfl (w.heap.size + 1) us8 _ (by rfl) (by rfl) HR8.out.len HB8.out.ref.bR rfl HR8.out.one ?_
      intro w9 hB9 hc9
      have HB9 := Lib.hid hB9
      have HC9 : Hid (Chg NoF w w9) := Lib.hid (HB8.out.ref.chg.trans2 hc9 fun i _ hi => .inr (by have hi : i = w.heap.size + 1 := hi; omega))
      have HR9 : Hid (RdS (More S w) w9 us8 (rf ((s.mark k).send k x))) := Lib.hid ((HR8.out.keep hc9 (fun b hb e => (HB8.out.notB b hb).2 e)).mono (fun b _ hb => by
        rcases hb with hb | hb
        · exact .inl hb.1
        · exact .inr hb.1))
      refine hK _ _ (fun _ => HC8.out.ofNo.trans hc9) ?_
      clear hK K hB9 hc9
      (try simp only [Act.put, List.setIfInBounds_toArray, List.set_cons_zero, List.set_cons_succ])
      (refine wpPlan_quiet (v := ?_) rfl (fun _ _ _ h => h) (by intro w1 hS; clear hS; go_simp; with_reducible rfl) ?_; (simp only [Act.put, List.setIfInBounds_toArray, List.set_cons_zero, List.set_cons_succ]))
      clear hops
      refine wpPlan_nil ?_
      go_wp2_with fail
      (try simp only [Exit.inBlock, Exit.then]); refine bodyPost_ret (results_cell2 aggRing rfl _ _ _ _ (by rfl) HB9.out HR8.out.len) rfl ?_
      exact ⟨_, by rw [HE.out]; rfl, us8, rfl, by rw [HDO.out]; exact HR9.out, HC9.out⟩

theorem RGood.pop {s : Ring} (h : RGood s) (k : Nat) : RGood (s.pop k) where
  lb := h.lb
  lw := by show (s.ways.set _ _).length = _; rw [List.length_set]; exact h.lw
  n0 := h.n0
  n5 := h.n5
  wy := fun i => by
    show ((s.ways.set k (s.way k).tail).getD i []).length ≤ s.sent
    by_cases hk : k < s.ways.length
    · rw [getD_setL hk]
      split
      · have := h.wy k; rw [List.length_tail]; unfold Ring.way; omega
      · exact h.wy i
    · rw [List.set_eq_of_length_le (by omega)]; exact h.wy i
  st := h.st

set_option maxHeartbeats 8000000 in
set_option maxRecDepth 100000 in
theorem step_ref (S : Nat → Prop) (w : World) (us : List Value) (s : Ring) (h : RdS S w us (rf s)) (hs : RGood s) (i : Int) :
    Calls Tryd.prog 10 #[.agg us.toArray, .int .i64 i] w (RAns S w (s.step i) (s.stErr i)) := by
  obtain ⟨na, nc, wa, wc, rfl⟩ := rf_opn h
  have HU := Lib.hid h
  have HS := Lib.hid hs
  obtain ⟨n, HN⟩ : ∃ n, Hid (s.names.length = n) := ⟨_, Lib.hid rfl⟩
  obtain ⟨m, HM⟩ : ∃ m, Hid (s.mask = m) := ⟨_, Lib.hid rfl⟩
  obtain ⟨ld, HLD⟩ : ∃ ld, Hid (s.leader = ld) := ⟨_, Lib.hid rfl⟩
  obtain ⟨sn, HSN⟩ : ∃ sn, Hid (s.sent = sn) := ⟨_, Lib.hid rfl⟩
  have hn0 := hs.n0
  have hn5 := hs.n5
  have hst := hs.st
  have hm := Ring.mask_lt hn5
  rw [hs.lw, HN.out, HM.out, HLD.out, HSN.out] at HU ⊢
  rw [HM.out] at hm
  rw [HN.out] at hn0 hn5
  rw [HSN.out] at hst
  clear h hs
  have BAD : Hid (∀ x (w' : World), s.stErr i = x → x ≠ 0 → Bx S w w' w.heap.size (w.heap.size + 1) [.slice na n nc, .int .i64 (m : Int), .slice wa n wc, .int .i64 ld, .int .i64 (sn : Int)] [.slice na n nc, .int .i64 (m : Int), .slice wa n wc, .int .i64 ld, .int .i64 (sn : Int)] (rf s) → RAns S w (s.step i) (s.stErr i) (.returned (.tuple #[.agg #[.slice na n nc, .int .i64 (m : Int), .slice wa n wc, .int .i64 ld, .int .i64 (sn : Int)], .int .i64 x])) w') := Lib.hid fun x w' he hx hR => by
    have h1 : s.step i = s := by unfold Ring.step; rw [if_neg (by rw [he]; exact hx)]
    rw [h1, he]
    exact ⟨_, rfl, hR.ans⟩
  have hwn : wrap64 ((n : Int) - 1) = (n : Int) - 1 := IntWalk.wrap64_in _ (by omega)
  have HHAS : Hid (inB i 0 ((n : Int) - 1) = s.has i) := Lib.hid (by rw [← HN.out]; rfl)
  cases hh : s.has i with
  | false =>
    have HE : Hid (s.stErr i = 1) := Lib.hid (by unfold Ring.stErr; rw [if_pos hh])
    rw [hh] at HHAS
    clear hh
    go_enter Tryd.func10, Tryd.ntmps10
    go_wp2_with fail
    refine (ref6In_any _ _ _ _).mono ?_
    rintro e w2 ⟨rfl, rfl⟩
    rw [HHAS.out]
    have HB := Lib.hid (Bx.start w [.slice na n nc, .int .i64 (m : Int), .slice wa n wc, .int .i64 ld, .int .i64 (sn : Int)] [.slice none 0 0, .int .i64 0, .slice none 0 0, .int .i64 0, .int .i64 0] (rf s) HU.out 25 25)
    generalize ((w.alloc _).alloc _) = w2 at *
    go_wp2_with (first | (refine wpList_plain rfl (fun K hK => wp_loadT aggRing _ rfl w.heap.size [.slice na n nc, .int .i64 (m : Int), .slice wa n wc, .int .i64 ld, .int .i64 (sn : Int)] (by rfl) HB.out.ref.bB rfl ?_); refine hK _ _ ?_; clear hK) | (refine wpList_plain rfl (fun K hK => wp_storeT aggRing _ _ rfl (w.heap.size + 1) [.slice na n nc, .int .i64 (m : Int), .slice wa n wc, .int .i64 ld, .int .i64 (sn : Int)] _ (by rfl) (by rfl) rfl HB.out.ref.bR rfl rfl ?_); intro wz hBz hcz; have HB3 := Lib.hid (HB.out.setR hBz hcz); clear hBz hcz; refine hK _ _ ?_; clear hK))
    (try simp only [Exit.inBlock, Exit.then]); refine bodyPost_ret (results_cell2 aggRing rfl _ _ _ _ (by rfl) HB3.out.ref.bR rfl) rfl ?_
    exact BAD.out 1 _ HE.out (by omega) HB3.out
  | true =>
    have hib : 0 ≤ i ∧ i ≤ (s.names.length : Int) - 1 := by simpa [Ring.has, inB] using hh
    obtain ⟨k, rfl⟩ := Int.eq_ofNat_of_zero_le hib.1
    have hk : k < n := by rw [← HN.out]; omega
    have HKS : Hid (k < s.names.length) := Lib.hid (by rw [HN.out]; exact hk)
    rw [hh] at HHAS
    clear hib
    cases hway : s.way k with
    | nil =>
      have HE : Hid (s.stErr k = 5) := Lib.hid (by unfold Ring.stErr; rw [if_neg (by rw [hh]; simp), Int.toNat_natCast, if_pos hway])
      have hk1 : (k : Int) < n := by omega
      clear hh
      go_enter Tryd.func10, Tryd.ntmps10
      go_wp2_with fail
      refine (ref6In_any _ _ _ _).mono ?_
      rintro e w2 ⟨rfl, rfl⟩
      rw [HHAS.out]
      have HB := Lib.hid (Bx.start w [.slice na n nc, .int .i64 (m : Int), .slice wa n wc, .int .i64 ld, .int .i64 (sn : Int)] [.slice none 0 0, .int .i64 0, .slice none 0 0, .int .i64 0, .int .i64 0] (rf s) HU.out 25 25)
      generalize ((w.alloc _).alloc _) = w2 at *
      have c2 : w2.cell? ⟨w.heap.size, 2, none⟩ = some (.slice wa n wc) := HB.out.ref.bB.cell 2
      have HWY : Hid (Rd2 (In S w w.heap.size (w.heap.size + 1)) w2 (.slice wa n wc) s.ways) := Lib.hid (HB.out.at 2 rfl rfl)
      obtain ⟨bG, oG, cG, u, ev, dr, hru, hrl⟩ := HWY.out.at (Chg.refl NoF w2) (fun _ _ h => h) (j := k) (by rw [HS.out.lw, HN.out]; exact hk)
      rw [HS.out.lw, HN.out] at ev
      simp only [Value.slice.injEq] at ev
      obtain ⟨rfl, -, rfl⟩ := ev
      rw [show s.ways.getD k [] = s.way k from rfl] at hru hrl
      rw [hway] at hru
      obtain ⟨ua, uc, rfl⟩ := hru.val
      have dr2 : w2.cell? ⟨bG, oG + k, none⟩ = some (.slice ua 0 uc) := dr
      clear hru hrl dr
      go_wp2_with (first | (refine wpList_plain rfl (fun K hK => wp_loadT aggRing _ rfl w.heap.size [.slice na n nc, .int .i64 (m : Int), .slice (some ⟨bG, oG, none⟩) n wc, .int .i64 ld, .int .i64 (sn : Int)] (by rfl) HB.out.ref.bB rfl ?_); refine hK _ _ ?_; clear hK) | (refine wpList_plain rfl (fun K hK => wp_storeT aggRing _ _ rfl (w.heap.size + 1) [.slice na n nc, .int .i64 (m : Int), .slice (some ⟨bG, oG, none⟩) n wc, .int .i64 ld, .int .i64 (sn : Int)] _ (by rfl) (by rfl) rfl HB.out.ref.bR rfl rfl ?_); intro wz hBz hcz; have HB3 := Lib.hid (HB.out.setR hBz hcz); clear hBz hcz; refine hK _ _ ?_; clear hK))
      (try simp only [Exit.inBlock, Exit.then]); refine bodyPost_ret (results_cell2 aggRing rfl _ _ _ _ (by rfl) HB3.out.ref.bR rfl) rfl ?_
      have h1 : s.step k = s := by unfold Ring.step; rw [if_neg (by rw [HE.out]; decide)]
      rw [h1, HE.out]
      exact ⟨_, rfl, HB3.out.ans⟩
    | cons x t =>
      have HE : Hid (s.stErr k = 0) := Lib.hid (by unfold Ring.stErr; rw [if_neg (by rw [hh]; simp), Int.toNat_natCast, if_neg (by rw [hway]; simp)])
      have HDO : Hid (s.step k = (s.pop k).hear k x) := Lib.hid (by unfold Ring.step; rw [if_pos HE.out, Int.toNat_natCast, hway]; rfl)
      have HPS := Lib.hid (HS.out.pop k)
      have HPW : Hid (s.ways.set k t = (s.pop k).ways) := Lib.hid (by show _ = s.ways.set k (s.way k).tail; rw [hway]; rfl)
      obtain ⟨tl, HTL⟩ : ∃ tl, Hid (t.length = tl) := ⟨_, Lib.hid rfl⟩
      have hk1 : (k : Int) < n := by omega
      have HWL : Hid (tl < sn) := Lib.hid (by have := HS.out.wy k; rw [show s.ways.getD k [] = s.way k from rfl, hway] at this; simp at this; have := HSN.out; have := HTL.out; omega)
      have hz : (((tl : Int) + 1) == 0) = false := by rw [beq_eq_false_iff_ne]; omega
      have htl2 : (1 : Int) ≤ (tl : Int) + 1 := by omega
      have HWE := Lib.hid hway
      clear hh hway
      go_enter Tryd.func10, Tryd.ntmps10
      go_wp2_with fail
      refine (ref6In_any _ _ _ _).mono ?_
      rintro e w2 ⟨rfl, rfl⟩
      rw [HHAS.out]
      have HB := Lib.hid (Bx.start w [.slice na n nc, .int .i64 (m : Int), .slice wa n wc, .int .i64 ld, .int .i64 (sn : Int)] [.slice none 0 0, .int .i64 0, .slice none 0 0, .int .i64 0, .int .i64 0] (rf s) HU.out 25 25)
      generalize ((w.alloc _).alloc _) = w2 at *
      have c2 : w2.cell? ⟨w.heap.size, 2, none⟩ = some (.slice wa n wc) := HB.out.ref.bB.cell 2
      have HWY : Hid (Rd2 (In S w w.heap.size (w.heap.size + 1)) w2 (.slice wa n wc) s.ways) := Lib.hid (HB.out.at 2 rfl rfl)
      obtain ⟨bG, oG, cG, u, ev, dr, hru, hrl⟩ := HWY.out.at (Chg.refl NoF w2) (fun _ _ h => h) (j := k) (by rw [HS.out.lw, HN.out]; exact hk)
      rw [HS.out.lw, HN.out] at ev
      simp only [Value.slice.injEq] at ev
      obtain ⟨rfl, -, rfl⟩ := ev
      rw [show s.ways.getD k [] = s.way k from rfl] at hru hrl
      rw [HWE.out] at hru
      obtain ⟨bU, oU, cU, rfl, hUS, hcap, hcU⟩ := hru.formC (by simp)
      have dU := hcU 0 (by simp)
      rw [show (x :: t).getD 0 0 = x from rfl, Nat.add_zero] at dU
      rw [show (x :: t).length = tl + 1 by rw [List.length_cons, HTL.out]] at dr hru hcap
      have HRU := Lib.hid hru
      obtain ⟨off, hoff, hoff2⟩ := tail_off2 bU oU cU tl hcap
      have HTAIL : Hid (Rd (In S w w.heap.size (w.heap.size + 1)) w2 (.slice (some ⟨bU, off, none⟩) tl (cU - 1)) t) := Lib.hid (Rd.tail2 hru HTL.out hoff2)
      have HCAP := Lib.hid hcap
      have hcap2 : (tl : Int) + 1 ≤ cU := by omega
      clear hru hrl hcU hUS hoff2 hcap
      go_wp2_with fail
      refine wp_region_plan (Chg NoF w2) 11 [(0,true),(1,true),(2,true),(3,true),(4,true),(5,true),(6,true),(7,true),(8,true),(9,false),(10,true),(11,false)] mixed (by kernel_rfl) (Chg.refl _ _).drew ?_
      simp only [planOps, List.map_cons, List.map_nil, List.getElem?_cons_zero, List.getElem?_cons_succ, Option.getD_some]
      generalize hops : List.toArray _ = ops
      iterate 9 (refine wpPlan_quiet (v := ?_) rfl (fun _ _ _ h => h) (by intro w1 hS; have s0 := hS.cell_some c2 (fun h => h); have s1 := hS.cell_some dr (fun h => h); clear hS; go_simp; with_reducible rfl) ?_; (simp only [Act.put, List.setIfInBounds_toArray, List.set_cons_zero, List.set_cons_succ]))
      refine wpPlan_loud rfl (fun K hK => ?_)
      go_simp
      refine (rows_ref (In S w w.heap.size (w.heap.size + 1)) _ _ s.ways k t w2.drew (HWY.out.keep ((Chg.refl NoF w2).drew) (fun _ _ h => h)) (HTAIL.out.keep ((Chg.refl NoF w2).drew) (fun _ _ h => h)) (by rw [HTL.out]; have := HWL.out; omega) (by rw [HS.out.lw, HN.out]; exact hk) (by rw [HS.out.lw, HN.out]; omega)).mono ?_
      rintro e w4 ⟨v4, rfl, hr4, hc4⟩
      have HL4 : Hid ((s.ways.set k t).length = n) := Lib.hid (by rw [List.length_set, HS.out.lw, HN.out])
      obtain ⟨a4, c4, e4⟩ := hr4.val
      rw [HL4.out] at e4
      subst e4
      have HC4 : Hid (Chg NoF w2 w4) := Lib.hid (((Chg.refl NoF w2).drew).trans hc4)
      have HB4 := Lib.hid (HB.out.no HC4.out)
      have HX4 : Hid (RdF (In S w w.heap.size (w.heap.size + 1)) w4 (.slice a4 n c4) (.r (s.ways.set k t))) := Lib.hid ((HB.out.no ((Chg.refl NoF w2).drew)).told (f := .r _) hr4)
      refine hK _ _ (fun _ => HC4.out) ?_
      clear hK K hr4 hc4
      (try simp only [Act.put, List.setIfInBounds_toArray, List.set_cons_zero, List.set_cons_succ])
      (refine wpPlan_quiet (v := ?_) rfl (fun _ _ _ h => h) (by intro w1 hS; clear hS; go_simp; with_reducible rfl) ?_; (simp only [Act.put, List.setIfInBounds_toArray, List.set_cons_zero, List.set_cons_succ]))
      refine wpPlan_loud rfl (fun K hK => ?_)
      have s2 : w4.cell? ⟨w.heap.size, 2, none⟩ = some (.slice (some ⟨bG, oG, none⟩) n wc) := HB4.out.ref.bB.cell 2
      have f2 := HB4.out.ref.bB.frozen 2
      go_simp
      refine hK _ _ (fun h => absurd rfl h) ?_
      clear hK K
      clear hops
      refine wpPlan_nil ?_
      have HB5 : Hid (Bx S w (w4.setCell ⟨w.heap.size, 2, none⟩ (.slice a4 n c4)) w.heap.size (w.heap.size + 1) [.slice na n nc, .int .i64 (m : Int), .slice a4 n c4, .int .i64 ld, .int .i64 (sn : Int)] [.slice none 0 0, .int .i64 0, .slice none 0 0, .int .i64 0, .int .i64 0] (rf (s.pop k))) := Lib.hid (by
        have := HB4.out.set 2 _ _ HX4.out
        rw [HPW.out] at this
        exact this)
      clear s2 f2 c2 dr dU HB HB4 HX4 HC4 HWY HTAIL HRU hoff hcap2 htl2 hz
      generalize w4.setCell _ _ = w5 at *
      have c0 : w5.cell? ⟨w.heap.size, 0, none⟩ = some (.slice na n nc) := HB5.out.ref.bB.cell 0
      have HNM : Hid (Rd (In S w w.heap.size (w.heap.size + 1)) w5 (.slice na n nc) s.names) := Lib.hid (HB5.out.at 0 rfl rfl)
      obtain ⟨bN, oN, cN, eN, hNS, hcN⟩ := HNM.out.form (by rw [HN.out]; omega)
      rw [HN.out] at eN
      simp only [Value.slice.injEq] at eN
      obtain ⟨rfl, -, rfl⟩ := eN
      have dN := hcN k HKS.out
      obtain ⟨nm, HNMK⟩ : ∃ nm, Hid (s.name k = nm) := ⟨_, Lib.hid rfl⟩
      rw [show s.names.getD k 0 = nm from HNMK.out] at dN
      have HNB := Lib.hid hNS
      have HPN : Hid ((s.pop k).name k = nm) := Lib.hid HNMK.out
      have HKP : Hid (k < (s.pop k).names.length) := Lib.hid HKS.out
      clear hcN hNS HNM
      by_cases hx : x = nm
      · have hxe : (x == nm) = true := by rw [beq_iff_eq]; exact hx
        have HDO2 : Hid (s.step k = { s.pop k with leader := (k : Int) }) := Lib.hid (by rw [HDO.out]; unfold Ring.hear; rw [if_pos (by rw [HPN.out]; exact hx)])
        have f3 := HB5.out.ref.bB.frozen 3
        have c3 : w5.cell? ⟨w.heap.size, 3, none⟩ = some (.int .i64 ld) := HB5.out.ref.bB.cell 3
        have HB6 := Lib.hid (HB5.out.set 3 (.int .i64 (k : Int)) (.i (k : Int)) rfl)
        clear hx
        go_wp2_with (first | (refine wpList_plain rfl (fun K hK => wp_loadT aggRing _ rfl w.heap.size [.slice (some ⟨bN, oN, none⟩) n nc, .int .i64 (m : Int), .slice a4 n c4, .int .i64 (k : Int), .int .i64 (sn : Int)] (by rfl) HB6.out.ref.bB rfl ?_); refine hK _ _ ?_; clear hK) | (refine wpList_plain rfl (fun K hK => wp_storeT aggRing _ _ rfl (w.heap.size + 1) [.slice (some ⟨bN, oN, none⟩) n nc, .int .i64 (m : Int), .slice a4 n c4, .int .i64 (k : Int), .int .i64 (sn : Int)] _ (by rfl) (by rfl) rfl HB6.out.ref.bR rfl rfl ?_); intro wz hBz hcz; have HB7 := Lib.hid (HB6.out.setR hBz hcz); clear hBz hcz; refine hK _ _ ?_; clear hK))
        (try simp only [Exit.inBlock, Exit.then]); refine bodyPost_ret (results_cell2 aggRing rfl _ _ _ _ (by rfl) HB7.out.ref.bR rfl) rfl ?_
        rw [HE.out, HDO2.out]
        exact ⟨_, rfl, HB7.out.ans⟩
      · have hxe : (x == nm) = false := by rw [beq_eq_false_iff_ne]; exact hx
        have HXN := Lib.hid hx
        have HON := Lib.hid (fun wq y (hq : RdS (In S w w.heap.size (w.heap.size + 1)) wq [.slice (some ⟨bN, oN, none⟩) n nc, .int .i64 (m : Int), .slice a4 n c4, .int .i64 ld, .int .i64 (sn : Int)] (rf (s.pop k))) => onward_ref _ wq _ (s.pop k) hq HPS.out k HKP.out y)
        by_cases hgt : nm < x
        · have hgd : decide (nm < x) = true := decide_eq_true hgt
          have HDO2 : Hid (s.step k = ((s.pop k).mark k).send k x) := Lib.hid (by rw [HDO.out]; unfold Ring.hear; rw [if_neg (by rw [HPN.out]; exact HXN.out), if_pos (by rw [HPN.out]; exact hgt)])
          clear hx
          go_wp2_with (refine wpList_plain rfl (fun K hK => wp_loadT aggRing _ rfl w.heap.size [.slice (some ⟨bN, oN, none⟩) n nc, .int .i64 (m : Int), .slice a4 n c4, .int .i64 ld, .int .i64 (sn : Int)] (by rfl) HB5.out.ref.bB rfl ?_); refine hK _ _ ?_; clear hK)
          refine (HON.out w5 x HB5.out.fld).mono ?_
          rintro e w8 ⟨v8, rfl, us8, rfl, hr8, hc8⟩
          have HR8 := Lib.hid (HB5.out.toldS hr8)
          have HB8 := Lib.hid (HB5.out.no hc8)
          clear hr8 hc8 c0 dN
          go_wp2_with (refine wpList_plain rfl (fun K hK => wp_storeT aggRing _ _ rfl (w.heap.size + 1) us8 _ (by rfl) (by rfl) HR8.out.len HB8.out.ref.bR rfl HR8.out.one ?_); intro w9 hB9 hc9; have HB9 := Lib.hid hB9; have HC9 : Hid (Chg NoF w w9) := Lib.hid (HB8.out.ref.chg.trans2 hc9 fun i _ hi => .inr (by have hi : i = w.heap.size + 1 := hi; omega)); have HR9 : Hid (RdS (More S w) w9 us8 (rf (((s.pop k).mark k).send k x))) := Lib.hid ((HR8.out.keep hc9 (fun b hb e => (HB8.out.notB b hb).2 e)).mono (fun b _ hb => hb.elim (fun h => .inl h.1) (fun h => .inr h.1))); clear hB9 hc9; refine hK _ _ ?_; clear hK)
          (try simp only [Exit.inBlock, Exit.then]); refine bodyPost_ret (results_cell2 aggRing rfl _ _ _ _ (by rfl) HB9.out HR8.out.len) rfl ?_
          exact ⟨_, by rw [HE.out]; rfl, us8, rfl, by rw [HDO2.out]; exact HR9.out, HC9.out⟩
        · have hgd : decide (nm < x) = false := decide_eq_false hgt
          have HGT := Lib.hid hgt
          have HBIT := Lib.hid (fun wq => bit_any m k (by omega) (by omega) wq)
          have c1 : w5.cell? ⟨w.heap.size, 1, none⟩ = some (.int .i64 m) := HB5.out.ref.bB.cell 1
          cases hbb : s.begun.getD k false with
          | true =>
            rw [show bitB m k = true by rw [← HM.out, Ring.mask_bit HKS.out, hbb]] at HBIT
            have HDO2 : Hid (s.step k = s.pop k) := Lib.hid (by rw [HDO.out]; unfold Ring.hear; rw [if_neg (by rw [HPN.out]; exact HXN.out), if_neg (by rw [HPN.out]; exact HGT.out), if_neg (by show ¬ s.begun.getD k false = false; rw [hbb]; simp)])
            clear hx hbb hgt
            go_wp2_with fail
            refine (HBIT.out w5).mono ?_
            rintro e w6 ⟨rfl, rfl⟩
            clear c0 c1 dN
            go_wp2_with (first | (refine wpList_plain rfl (fun K hK => wp_loadT aggRing _ rfl w.heap.size [.slice (some ⟨bN, oN, none⟩) n nc, .int .i64 (m : Int), .slice a4 n c4, .int .i64 ld, .int .i64 (sn : Int)] (by rfl) HB5.out.ref.bB rfl ?_); refine hK _ _ ?_; clear hK) | (refine wpList_plain rfl (fun K hK => wp_storeT aggRing _ _ rfl (w.heap.size + 1) [.slice (some ⟨bN, oN, none⟩) n nc, .int .i64 (m : Int), .slice a4 n c4, .int .i64 ld, .int .i64 (sn : Int)] _ (by rfl) (by rfl) rfl HB5.out.ref.bR rfl rfl ?_); intro wz hBz hcz; have HB7 := Lib.hid (HB5.out.setR hBz hcz); clear hBz hcz; refine hK _ _ ?_; clear hK))
            (try simp only [Exit.inBlock, Exit.then]); refine bodyPost_ret (results_cell2 aggRing rfl _ _ _ _ (by rfl) HB7.out.ref.bR rfl) rfl ?_
            rw [HE.out, HDO2.out]
            exact ⟨_, rfl, HB7.out.ans⟩
          | false =>
            rw [show bitB m k = false by rw [← HM.out, Ring.mask_bit HKS.out, hbb]] at HBIT
            have HDO2 : Hid (s.step k = ((s.pop k).mark k).send k nm) := Lib.hid (by rw [HDO.out]; unfold Ring.hear; rw [if_neg (by rw [HPN.out]; exact HXN.out), if_neg (by rw [HPN.out]; exact HGT.out), if_pos (by show s.begun.getD k false = false; rw [hbb]), HPN.out])
            clear hx hbb hgt
            go_wp2_with fail
            refine (HBIT.out w5).mono ?_
            rintro e w6 ⟨rfl, rfl⟩
            clear c1
            go_wp2_with fail
            refine wp_region_plan (Chg (fun b => b = w.heap.size + 1) w5) 10 [(0,true),(1,true),(2,true),(3,true),(4,true),(5,true),(6,true),(7,false),(8,false),(9,true)] mixed (by kernel_rfl) (Chg.refl _ _).drew ?_
            simp only [planOps, List.map_cons, List.map_nil, List.getElem?_cons_zero, List.getElem?_cons_succ, Option.getD_some]
            generalize hops : List.toArray _ = ops
            refine wpPlan_quiet rfl (fun _ _ _ h => h) (fun w1 hS => quiet_loadT aggRing _ rfl w.heap.size [.slice (some ⟨bN, oN, none⟩) n nc, .int .i64 (m : Int), .slice a4 n c4, .int .i64 ld, .int .i64 (sn : Int)] (by rfl) (HB5.out.ref.bB.keep hS (fun h => by have h : w.heap.size = w.heap.size + 1 := h; omega)) rfl) ?_
            (simp only [Act.put, List.setIfInBounds_toArray, List.set_cons_zero, List.set_cons_succ])
            iterate 6 (refine wpPlan_quiet (v := ?_) rfl (fun _ _ _ h => h) (by intro w1 hS; have s0 := hS.cell_some c0 (fun h => by have h : w.heap.size = w.heap.size + 1 := h; omega); have s1 := hS.cell_some dN (fun h => (HB5.out.notB _ HNB.out).2 h); clear hS; go_simp; with_reducible rfl) ?_; (simp only [Act.put, List.setIfInBounds_toArray, List.set_cons_zero, List.set_cons_succ]))
            refine wpPlan_loud rfl (fun K hK => ?_)
            go_simp
            refine (HON.out w5.drew _ (HB5.out.fld.keep ((Chg.refl NoF w5).drew) (fun _ _ h => h))).mono ?_
            rintro e w8 ⟨v8, rfl, us8, rfl, hr8, hc8⟩
            have HC8 : Hid (Chg NoF w5 w8) := Lib.hid (((Chg.refl NoF w5).drew).trans hc8)
            have HR8 := Lib.hid ((HB5.out.no ((Chg.refl NoF w5).drew)).toldS hr8)
            have HB8 := Lib.hid (HB5.out.no HC8.out)
            refine hK _ _ (fun _ => HC8.out.ofNo) ?_
            clear hK K hr8 hc8
            (try simp only [Act.put, List.setIfInBounds_toArray, List.set_cons_zero, List.set_cons_succ])
            refine wpPlan_loud rfl (fun K hK => ?_)
            refine wp_storeT aggRing _ _ rfl (w.heap.size + 1) us8 _ (by rfl) (by rfl) HR8.out.len HB8.out.ref.bR rfl HR8.out.one ?_
            intro w9 hB9 hc9
            have HB9 := Lib.hid hB9
            have HC9 : Hid (Chg NoF w w9) := Lib.hid (HB8.out.ref.chg.trans2 hc9 fun i _ hi => .inr (by have hi : i = w.heap.size + 1 := hi; omega))
            have HR9 : Hid (RdS (More S w) w9 us8 (rf (((s.pop k).mark k).send k nm))) := Lib.hid ((HR8.out.keep hc9 (fun b hb e => (HB8.out.notB b hb).2 e)).mono (fun b _ hb => by
              rcases hb with hb | hb
              · exact .inl hb.1
              · exact .inr hb.1))
            refine hK _ _ (fun _ => HC8.out.ofNo.trans hc9) ?_
            clear hK K hB9 hc9
            (try simp only [Act.put, List.setIfInBounds_toArray, List.set_cons_zero, List.set_cons_succ])
            (refine wpPlan_quiet (v := ?_) rfl (fun _ _ _ h => h) (by intro w1 hS; clear hS; go_simp; with_reducible rfl) ?_; (simp only [Act.put, List.setIfInBounds_toArray, List.set_cons_zero, List.set_cons_succ]))
            clear hops
            refine wpPlan_nil ?_
            go_wp2_with fail
            (try simp only [Exit.inBlock, Exit.then]); refine bodyPost_ret (results_cell2 aggRing rfl _ _ _ _ (by rfl) HB9.out HR8.out.len) rfl ?_
            exact ⟨_, by rw [HE.out]; rfl, us8, rfl, by rw [HDO2.out]; exact HR9.out, HC9.out⟩

end Go.Proofs.YtgpjjbfmckcjgaaDoor
