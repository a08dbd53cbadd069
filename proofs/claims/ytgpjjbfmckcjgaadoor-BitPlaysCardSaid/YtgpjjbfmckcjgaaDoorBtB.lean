/-
  The line over two wires: a new one; what was got, and how many are known to be.
  Conditions: the values are read as a list of integers.
-/
import Derived.Test.YtgpjjbfmckcjgaaDoorBtA
namespace Go.Proofs.YtgpjjbfmckcjgaaDoor
open Go Go.RowKit

def bnErr (l : List Int) : Int := if 20 < l.length then 4 else if l.any (fun x => inB x 0 1000 == false) = true then 1 else 0

def BNewPost (w : World) (l : List Int) (e : Ending) (w' : World) : Prop :=
  Chg NoF w w' ∧ ((bnErr l ≠ 0 ∧ e = .returned (.tuple #[.pointer none, errV (bnErr l)])) ∨ (bnErr l = 0 ∧ ∃ t, e = .returned (.tuple #[.pointer (some ⟨t, 0, none⟩), .nilIface]) ∧ BIn (fun b => b < w.heap.size) w' t (BNet.init l)))

theorem bnErr_good {l : List Int} (h : bnErr l = 0) : l.length ≤ 20 ∧ ∀ x ∈ l, 0 ≤ x ∧ x ≤ 1000 := by
  unfold bnErr at h
  by_cases h1 : 20 < l.length
  · rw [if_pos h1] at h; omega
  rw [if_neg h1] at h
  by_cases h2 : l.any (fun x => inB x 0 1000 == false) = true
  · rw [if_pos h2] at h; omega
  refine ⟨by omega, fun x hx => ?_⟩
  have h3 : inB x 0 1000 = true := by
    cases h3 : inB x 0 1000 with
    | true => rfl
    | false => exact absurd (List.any_eq_true.2 ⟨x, hx, by rw [h3]; rfl⟩) h2
  simpa [inB] using h3

theorem line_made (w w1 : World) (l : List Int) (v : Value) (e : TypeId) (hc : Chg NoF w w1) (ho : w1.ownsRow w.heap.size 3 1 v l.length (l.map (.int .i64))) :
    BIn (fun b => b < w.heap.size) (w1.alloc (.cells #[v, .int .i64 0, .slice none 0 0, .slice none 0 0, .slice none 0 0] e)) w1.heap.size (BNet.init l) := by
  have hsz := hc.size
  refine ⟨fun i => match i with | .vals => v | _ => .slice none 0 0, fun b => if b = w1.heap.size then some none else if v.ownBlock = some b then some (some .vals) else none, {
    hS := fun b hb => by
      have hb : b < w.heap.size := hb
      refine ⟨?_, by simp; omega⟩
      rw [if_neg (by omega), if_neg (fun e => by have := (ho.lt b e).1; omega)]
    ht := if_pos rfl
    blk := Blk.alloc w1 [v, .int .i64 0, .slice none 0 0, .slice none 0 0, .slice none 0 0] e
    row := fun i => by
      cases i with
      | vals => exact owns_zero (((Chg.refl NoF w1).alloc _).row ho (fun _ _ h => h))
      | got => exact World.ownsRow_nil _ _ _ _
      | forth => exact World.ownsRow_nil _ _ _ _
      | back => exact World.ownsRow_nil _ _ _ _
    tg := fun i b hb => by
      cases i with
      | vals =>
        have hb : v.ownBlock = some b := hb
        have := (ho.lt b hb).2
        rw [if_neg (by omega), if_pos hb]
      | got => cases hb
      | forth => cases hb
      | back => cases hb }⟩

set_option maxHeartbeats 2000000 in
set_option maxRecDepth 100000 in
theorem bnew_any (S : Nat → Prop) (w : World) (v : Value) (l : List Int) (hr : Rd S w v l) (hlb : l.length ≤ 9223372036854775807) : Calls Tryd.prog 17 #[v] w (BNewPost w l) := by
  have HR := Lib.hid hr
  obtain ⟨pa, pc, rfl⟩ := hr.val
  obtain ⟨n, HN⟩ : ∃ n, Hid (l.length = n) := ⟨_, Lib.hid rfl⟩
  rw [HN.out] at HR hlb ⊢
  clear hr
  by_cases hl : 20 < n
  · have hE : Hid (bnErr l = 4) := Lib.hid (by unfold bnErr; rw [if_pos (by rw [HN.out]; exact hl)])
    have hl1 : (20 : Int) < n := by omega
    go_enter Tryd.func17, Tryd.ntmps17
    go_wp2
    go_ret2
    exact ⟨Chg.refl _ _, .inl ⟨by rw [hE.out]; decide, by rw [hE.out]; rfl⟩⟩
  have hl1 : ¬ (20 : Int) < n := by omega
  have hn20 : n ≤ 20 := by omega
  clear hl hlb
  go_enter Tryd.func17, Tryd.ntmps17
  go_wp2_with fail
  go_loopw [12, 5] (fun i _ wr => ∃ k : Nat, k ≤ n ∧ i = .int .i64 k ∧ Hid (w = wr ∧ ∀ j, j < k → inB (l.getD j 0) 0 1000 = true)) (fun i _ _ => n - (intOf i).toNat)
  case atStart => exact ⟨0, Nat.zero_le _, rfl, Lib.hid ⟨rfl, fun j hj => absurd hj (Nat.not_lt_zero _)⟩⟩
  case round =>
    obtain ⟨k, hkn, rfl, HK⟩ := hrel
    obtain ⟨e0, hk⟩ := HK.out
    subst e0
    have HK := Lib.hid hk
    clear hk
    by_cases hlt : k < n
    · have hlt1 : (k : Int) < n := by omega
      obtain ⟨b, off, c', ev, _, hc⟩ := HR.out.form (by rw [HN.out]; omega)
      rw [HN.out] at hc ev
      simp only [Value.slice.injEq] at ev
      obtain ⟨rfl, -, rfl⟩ := ev
      have d0 := hc k hlt
      obtain ⟨x, HX⟩ : ∃ x, Hid (l.getD k 0 = x) := ⟨_, Lib.hid rfl⟩
      rw [HX.out] at d0
      clear hc
      cases hin : inB x 0 1000 with
      | false =>
        have hE : Hid (bnErr l = 1) := Lib.hid (by
          unfold bnErr
          rw [if_neg (by rw [HN.out]; omega), if_pos]
          refine List.any_eq_true.2 ⟨x, ?_, by rw [hin]; rfl⟩
          rw [← HX.out, List.getD, List.getElem?_eq_getElem (by rw [HN.out]; exact hlt)]
          exact List.getElem_mem _)
        go_wp2_with fail
        refine (within_any _ _ _ _).mono ?_
        rintro e w' ⟨rfl, rfl⟩
        rw [hin]
        go_wp2
        go_ret2
        exact ⟨Chg.refl _ _, .inl ⟨by rw [hE.out]; decide, by rw [hE.out]; rfl⟩⟩
      | true =>
        have HK2 : Hid (w = w ∧ ∀ j, j < k + 1 → inB (l.getD j 0) 0 1000 = true) := Lib.hid ⟨rfl, fun j hj => by
          by_cases e : j = k
          · subst e; rw [HX.out]; exact hin
          · exact HK.out j (by omega)⟩
        go_wp2_with fail
        refine (within_any _ _ _ _).mono ?_
        rintro e w' ⟨rfl, rfl⟩
        rw [hin]
        clear d0 hin
        go_wp2
        go_roundw
        case rel => exact ⟨k + 1, by omega, by go_num, HK2⟩
        case measure => simp [intOf]; omega
    · have hlt1 : ¬ (k : Int) < n := by omega
      have hE : Hid (bnErr l = 0) := Lib.hid (by
        unfold bnErr
        rw [if_neg (by rw [HN.out]; omega), if_neg]
        intro hany
        obtain ⟨x, hx, hb⟩ := List.any_eq_true.1 hany
        obtain ⟨j, hj, e⟩ := List.getElem_of_mem hx
        have := HK.out j (by rw [HN.out] at hj; omega)
        rw [List.getD, List.getElem?_eq_getElem hj, Option.getD_some, e] at this
        rw [this] at hb; cases hb)
      clear hlt hkn
      go_wp2_with fail
      refine (clone_any S _ l w HR.out (by rw [HN.out]; omega)).mono ?_
      rintro e w1 ⟨v1, rfl, hown, hc1⟩
      have HM := Lib.hid (line_made w w1 l v1 65 hc1 hown)
      have HC := Lib.hid (hc1.alloc (.cells #[v1, .int .i64 0, .slice none 0 0, .slice none 0 0, .slice none 0 0] 65))
      obtain ⟨va, vc, rfl⟩ := owns_val hown
      clear hown hc1
      go_wp2
      go_ret2
      exact ⟨HC.out, .inr ⟨hE.out, _, rfl, HM.out⟩⟩

set_option maxHeartbeats 400000 in
theorem bsent_any (S : Nat → Prop) (w : World) (t : Nat) (s : BNet) (h : BIn S w t s) : Calls Tryd.prog 21 #[.pointer (some ⟨t, 0, none⟩)] w fun e w' => e = .returned (.int .i64 s.sent) ∧ w = w' := by
  obtain ⟨V, tag, h⟩ := h
  have d1 : w.cell? ⟨t, 1, none⟩ = some (.int .i64 s.sent) := h.blk.cell 1
  go_enter Tryd.func21, Tryd.ntmps21
  go_wp2
  go_ret
  exact ⟨rfl, rfl⟩

set_option maxHeartbeats 400000 in
theorem bgot_any (S : Nat → Prop) (w : World) (t : Nat) (s : BNet) (h : BIn S w t s) (hg : s.got.length ≤ 1000) : Calls Tryd.prog 20 #[.pointer (some ⟨t, 0, none⟩)] w fun e w' => ∃ v, e = .returned v ∧ w'.ownsRow w.heap.size 3 1 v s.got.length (s.got.map (.int .i64)) ∧ Chg NoF w w' := by
  obtain ⟨V, tag, h⟩ := h
  have d2 : w.cell? ⟨t, 2, none⟩ = some (V .got) := h.blk.cell 2
  have hrow : w.ownsRow 0 3 1 (V .got) s.got.length (s.got.map (.int .i64)) := h.row .got
  have HR := Lib.hid (Rd.ofOwns (S := fun _ => True) hrow (fun _ _ => trivial))
  obtain ⟨va, vc, hv⟩ := owns_val hrow
  rw [hv] at d2 HR
  have HL := Lib.hid hg
  clear hrow h hv hg
  obtain ⟨n, HN⟩ : ∃ n, Hid (s.got.length = n) := ⟨_, Lib.hid rfl⟩
  rw [HN.out] at d2 HR ⊢
  go_enter Tryd.func20, Tryd.ntmps20
  go_wp2_with fail
  refine (clone_any _ _ s.got w HR.out (by have := HL.out; omega)).mono ?_
  rintro e w1 ⟨v1, rfl, hown, hc1⟩
  rw [HN.out] at hown
  go_wp2
  go_ret
  exact ⟨_, rfl, hown, hc1⟩

end Go.Proofs.YtgpjjbfmckcjgaaDoor
