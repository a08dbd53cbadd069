/-
  The ring that chooses: what is told of it, and how one is made.
  Conditions: a ring as New made it; the names are read as a list of integers.
-/
import Derived.Test.YtgpjjbfmckcjgaaDoorElB
namespace Go.Proofs.YtgpjjbfmckcjgaaDoor
open Go Go.RowKit

set_option maxHeartbeats 1000000 in
theorem leader_any (S : Nat → Prop) (w : World) (t : Nat) (s : Ring) (h : RingIn S w t s) :
    Calls Tryd.prog 12 #[.pointer (some ⟨t, 0, none⟩)] w fun e w' => e = .returned (.int .i64 s.leader) ∧ w = w' := by
  obtain ⟨hSlt, hBnd, N, B, W, M, tag, h⟩ := h
  have c3 : w.cell? ⟨t, 3, none⟩ = some (.int .i64 s.leader) := h.blk.cell 3
  clear hSlt hBnd h
  go_enter Tryd.func12, Tryd.ntmps12
  go_wp2
  go_ret
  exact ⟨rfl, rfl⟩

set_option maxHeartbeats 1000000 in
theorem sent_any (S : Nat → Prop) (w : World) (t : Nat) (s : Ring) (h : RingIn S w t s) :
    Calls Tryd.prog 13 #[.pointer (some ⟨t, 0, none⟩)] w fun e w' => e = .returned (.int .i64 s.sent) ∧ w = w' := by
  obtain ⟨hSlt, hBnd, N, B, W, M, tag, h⟩ := h
  have c3 : w.cell? ⟨t, 4, none⟩ = some (.int .i64 s.sent) := h.blk.cell 4
  clear hSlt hBnd h
  go_enter Tryd.func13, Tryd.ntmps13
  go_wp2
  go_ret
  exact ⟨rfl, rfl⟩

/-- The names on the way to a node; nothing, if there is none. -/
def Ring.tells (s : Ring) (i : Int) : List Int := if s.has i = true then s.way i.toNat else []

theorem RingIn.keep {S : Nat → Prop} {w w' : World} {t : Nat} {s : Ring} (h : RingIn S w t s) (hc : Chg NoF w w') : RingIn S w' t s := by
  obtain ⟨hSlt, hBnd, N, B, W, M, tag, h⟩ := h
  have hk : ∀ {r e k n : Nat} {v : Value} {xs : List Value}, Own w tag r e k v n xs → Own w' tag r e k v n xs := fun ho => ho.keep hc (fun _ hf => hf.elim) (fun _ _ => rfl)
  exact ⟨fun b hb => Nat.lt_of_lt_of_le (hSlt b hb) hc.size, hBnd, N, B, W, M, tag, ⟨h.hS, h.ht, h.blk.keep hc (fun hf => hf), hk h.names, hk h.begun, hk h.ways, fun i hi => hk (h.msgs i hi), h.lens⟩⟩

/-- Blocks made since then may be kept, too. -/
theorem RingIn.more {S : Nat → Prop} {w w' : World} {t : Nat} {s : Ring} (h : RingIn S w t s) (hc : Chg NoF w w') : RingIn (fun b => S b ∨ (w.heap.size ≤ b ∧ b < w'.heap.size)) w' t s := by
  obtain ⟨hSlt, hBnd, N, B, W, M, tag, h⟩ := h
  have ht : ∀ b, b < w.heap.size → (fun b => if w.heap.size ≤ b then 0 else tag b) b = tag b := fun b hb => by show (if _ then _ else _) = _; rw [if_neg (by omega)]
  have hk : ∀ {r e k n : Nat} {v : Value} {xs : List Value}, Own w tag r e k v n xs → Own w' (fun b => if w.heap.size ≤ b then 0 else tag b) r e k v n xs := fun ho => ho.keep hc (fun _ hf => hf.elim) ht
  refine ⟨fun b hb => ?_, hBnd, N, B, W, M, _, ⟨fun b hb => ?_, (ht t h.blk.lt).trans h.ht, h.blk.keep hc (fun hf => hf), hk h.names, hk h.begun, hk h.ways, fun i hi => hk (h.msgs i hi), h.lens⟩⟩
  · rcases hb with hb | hb
    · exact Nat.lt_of_lt_of_le (hSlt b hb) hc.size
    · exact hb.2
  · rcases hb with hb | hb
    · show (if w.heap.size ≤ b then 0 else tag b) = 0
      split
      · rfl
      · exact h.hS b hb
    · show (if w.heap.size ≤ b then 0 else tag b) = 0
      rw [if_pos hb.1]

set_option maxHeartbeats 1000000 in
theorem ways_any (S : Nat → Prop) (w : World) (t : Nat) (s : Ring) (h : RingIn S w t s) (i : Int) (hsent : (s.sent : Int) < 1000000) :
    Calls Tryd.prog 15 #[.pointer (some ⟨t, 0, none⟩), .int .i64 i] w fun e w' => ∃ v, e = .returned v ∧ Rd (fun b => w.heap.size ≤ b) w' v (s.tells i) ∧ Chg NoF w w' := by
  have HIS := Lib.hid (is_any S w t s h i)
  cases hh : s.has i with
  | false =>
    have hT : Hid (s.tells i = []) := Lib.hid (by unfold Ring.tells; rw [if_neg (by simp [hh])])
    rw [hh] at HIS
    clear h hh
    go_enter Tryd.func15, Tryd.ntmps15
    go_wp2_with (go_at_call 31; refine HIS.out.mono ?_; rintro e w' ⟨rfl, rfl⟩)
    go_ret
    exact ⟨_, rfl, by rw [hT.out]; exact Rd.nil _ _, Chg.refl _ _⟩
  | true =>
    have hT : Hid (s.tells i = s.way i.toNat) := Lib.hid (by unfold Ring.tells; rw [if_pos hh])
    rw [hh] at HIS
    have hib : 0 ≤ i ∧ i ≤ (s.names.length : Int) - 1 := by simpa [Ring.has, inB] using hh
    obtain ⟨k, rfl⟩ := Int.eq_ofNat_of_zero_le hib.1
    rw [Int.toNat_natCast] at hT
    obtain ⟨hSlt, hBnd, N, B, W, M, tag, h⟩ := h
    obtain ⟨hl1, hl2, hl3, hl4⟩ := h.lens
    obtain ⟨gW, cW, rfl, tW, ltW, _, _, _, hWc, hWf⟩ := h.ways.form' hl3
    have c2 : w.cell? ⟨t, 2, none⟩ = some (.slice (some ⟨gW, 0, none⟩) s.names.length cW) := h.blk.cell 2
    have hk : k < s.names.length := by omega
    have cM : w.cell? ⟨gW, k, none⟩ = some (M k) := by rw [hWc k (by omega)]; simp [hk]
    obtain ⟨l, HL⟩ : ∃ l, Hid (s.way k = l) := ⟨_, Lib.hid rfl⟩
    have hM : Own w tag (5 + k) 3 1 (M k) l.length (l.map (.int .i64)) := HL.out ▸ h.msgs k hk
    have hlb : l.length < 1000000 := by have := hBnd k; have h2 := HL.out; unfold Ring.way at h2; rw [h2] at this; omega
    have HCL := Lib.hid (clone_any (fun _ => True) (M k) l w (Rd.ofOwns hM.row (fun _ _ => trivial)) hlb)
    obtain ⟨a, c, hMv⟩ := owns_val hM.row
    rw [hMv] at HCL cM
    obtain ⟨n, hN⟩ : ∃ n, Hid (s.names.length = n) := ⟨_, Lib.hid rfl⟩
    rw [hN.out] at c2 hl3 hl4 hk
    have hk1 : (k : Int) < n := by omega
    obtain ⟨m, hm⟩ : ∃ m, Hid (l.length = m) := ⟨_, Lib.hid rfl⟩
    rw [hm.out] at HCL cM
    clear hWc hWf hl1 hl2 hBnd hSlt h hh hib hM hMv hlb
    go_enter Tryd.func15, Tryd.ntmps15
    go_wp2_with (first | (go_at_call 31; refine HIS.out.mono ?_; rintro e w' ⟨rfl, rfl⟩) | (go_at_call 27; refine HCL.out.mono ?_; rintro e w1 ⟨v', rfl, hown, hcc⟩))
    go_ret
    exact ⟨_, rfl, by rw [hT.out, HL.out]; exact Rd.ofOwns hown (fun b hb => (hown.lt b hb).1), hcc⟩

/-! ### slices.Contains -/
def IndexPost (l : List Int) (x : Int) (w : World) (e : Ending) (w' : World) : Prop := ∃ r : Int, e = .returned (.int .i64 r) ∧ (decide (0 ≤ r) = l.contains x) ∧ r ≤ l.length ∧ -1 ≤ r ∧ w = w'

set_option maxHeartbeats 1000000 in
theorem index_any (S : Nat → Prop) (v : Value) (l : List Int) (x : Int) (w : World) (hr : Rd S w v l) (hlb : l.length ≤ 9223372036854775807) :
    Calls Tryd.prog 38 #[v, .int .i64 x] w (IndexPost l x w) := by
  obtain ⟨pa, ca, rfl⟩ := hr.val
  have HR := Lib.hid hr
  obtain ⟨n, hN⟩ : ∃ n, Hid (l.length = n) := ⟨_, Lib.hid rfl⟩
  rw [hN.out] at hlb HR ⊢
  clear hr
  have hP : Hid (∀ k, k < n → x = l.getD k 0 → l.contains x = true) := Lib.hid (fun k hk e => by
    have hk' : k < l.length := by rw [hN.out]; exact hk
    have : x = l[k] := by simpa [List.getD, hk'] using e
    rw [this]; simp)
  have hQ : Hid ((∀ j, j < n → l.getD j 0 ≠ x) → l.contains x = false) := Lib.hid (fun h => by
    rw [Bool.eq_false_iff]; intro hc
    obtain ⟨k, hk, e⟩ := List.getElem_of_mem (List.contains_iff_mem.1 hc)
    exact h k (by rw [← hN.out]; exact hk) (by simp [List.getD, hk, e]))
  go_enter Tryd.func38, Tryd.ntmps38
  go_wp2
  go_loop [5, 8] (fun _ i => ∃ k : Nat, k ≤ n ∧ i = .int .i64 k ∧ Hid (∀ j, j < k → l.getD j 0 ≠ x)) (fun _ i => n - (intOf i).toNat)
  case atStart => exact ⟨0, Nat.zero_le _, rfl, Lib.hid fun j hj => by omega⟩
  case round =>
    obtain ⟨k, hkn, rfl, HB⟩ := hrel
    by_cases hlt : k < n
    · obtain ⟨b, off, c, e1, _, hc⟩ := HR.out.form (by rw [hN.out]; omega)
      simp only [Value.slice.injEq] at e1
      obtain ⟨rfl, -, rfl⟩ := e1
      obtain ⟨y, hY⟩ : ∃ y, Hid (l.getD k 0 = y) := ⟨_, Lib.hid rfl⟩
      have hcell := hc k (by rw [hN.out]; omega)
      rw [hY.out] at hcell
      have hk0 : (0 : Int) ≤ k := by omega
      have hk1 : (k : Int) < n := by omega
      clear hc
      cases hxy : (x == y) with
      | true =>
        have HC := Lib.hid (hP.out k hlt (by rw [hY.out]; exact eq_of_beq hxy))
        go_wp2
        go_ret
        exact ⟨(k : Int), rfl, by rw [HC.out]; simp, by rw [hN.out]; omega, by omega, rfl⟩
      | false =>
        have HB' : Hid (∀ j, j < k + 1 → l.getD j 0 ≠ x) := Lib.hid fun j hj => by
          by_cases e : j = k
          · subst e; rw [hY.out]; intro e2; rw [e2] at hxy; simp at hxy
          · exact HB.out j (by omega)
        go_wp2
        go_round
        case rel => exact ⟨k + 1, by omega, by go_num, HB'⟩
        case measure => simp [intOf]; omega
    · obtain rfl : k = n := by omega
      have HC := Lib.hid (hQ.out HB.out)
      go_wp2
      go_ret
      exact ⟨-1, rfl, by rw [HC.out]; rfl, by rw [hN.out]; omega, by omega, rfl⟩

set_option maxHeartbeats 1000000 in
theorem contains_any (S : Nat → Prop) (v : Value) (l : List Int) (x : Int) (w : World) (hr : Rd S w v l) (hlb : l.length ≤ 9223372036854775807) :
    Calls Tryd.prog 26 #[v, .int .i64 x] w fun e w' => e = .returned (.bool (l.contains x)) ∧ w = w' := by
  have HI := Lib.hid (index_any S v l x w hr hlb)
  clear hr
  go_enter Tryd.func26, Tryd.ntmps26
  go_wp2_with fail
  refine HI.out.mono ?_
  rintro e w' ⟨r, rfl, hd, _, _, rfl⟩
  have HD := Lib.hid hd
  clear hd
  go_wp2
  go_ret
  exact ⟨by rw [← HD.out]; rfl, rfl⟩

end Go.Proofs.YtgpjjbfmckcjgaaDoor
