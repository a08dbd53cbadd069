/-
  The document's answers about the ring that comes to order: what each function computes.
  Conditions: the states are read as a list of integers; kinds fits an int.
-/
import Derived.Test.YtghamcjcihiopaaDoorStE
import Derived.Laws.NewBlocks
namespace Go.Proofs.YtghamcjcihiopaaDoor
open Go Go.RowKit

set_option maxHeartbeats 400000 in
theorem refMay_any (S : Nat → Prop) (v : Value) (i : Nat) (l : List Int) (w : World) (hi : i < l.length) (hn : l.length ≤ 5) (hr : Rd S w v l) :
    Calls Tryd.prog 8 #[v, .int .i64 i] w fun e w' => e = .returned (.bool (mayB l i)) ∧ ∃ k, w' = w.drewN k := by
  obtain ⟨b, off, c, rfl, _, hc⟩ := hr.form (by omega)
  by_cases h : i = 0
  · subst h
    obtain ⟨n, hN⟩ : ∃ n, Hid (l.length = n) := ⟨_, Lib.hid rfl⟩
    rw [hN.out] at hi hn hc ⊢
    have h1 := hc 0 hi
    have h2 := hc (n - 1) (by omega)
    obtain ⟨x, hX⟩ : ∃ x, Hid (l.getD 0 0 = x) := ⟨_, Lib.hid rfl⟩
    obtain ⟨y, hY⟩ : ∃ y, Hid (l.getD (n - 1) 0 = y) := ⟨_, Lib.hid rfl⟩
    rw [hX.out, Nat.add_zero] at h1
    rw [hY.out] at h2
    have h5 : ((n : Int) - 1).toNat = n - 1 := by omega
    have h6 : (1 : Int) ≤ n := by omega
    clear hc
    go_enter Tryd.func8, Tryd.ntmps8
    go_wp2
    go_quiet (fail)
    go_wp2
    go_ret
    exact ⟨ret_bool (by simp only [mayB, if_true, hN.out, hX.out, hY.out]), _, rfl⟩
  · obtain ⟨n, hN⟩ : ∃ n, Hid (l.length = n) := ⟨_, Lib.hid rfl⟩
    rw [hN.out] at hi hn hc ⊢
    have h1 := hc i hi
    have h2 := hc (i - 1) (by omega)
    obtain ⟨x, hX⟩ : ∃ x, Hid (l.getD i 0 = x) := ⟨_, Lib.hid rfl⟩
    obtain ⟨y, hY⟩ : ∃ y, Hid (l.getD (i - 1) 0 = y) := ⟨_, Lib.hid rfl⟩
    rw [hX.out] at h1
    rw [hY.out] at h2
    have h4 : ((i : Int) == 0) = false := by simp [h]
    have h5 : ((i : Int) - 1).toNat = i - 1 := by omega
    have h6 : (1 : Int) ≤ i := by omega
    have h7 : (i : Int) < n := by omega
    have H := Lib.hid h
    clear hc h
    go_enter Tryd.func8, Tryd.ntmps8
    go_wp2
    go_quiet (fail)
    go_wp2
    go_ret
    exact ⟨ret_bool (by simp only [mayB, if_neg H.out, hX.out, hY.out]), _, rfl⟩


set_option maxHeartbeats 1000000 in
theorem refStates_any (S : Nat → Prop) (v : Value) (l : List Int) (kinds : Int) (w : World) (hr : Rd S w v l) (hlb : l.length ≤ 9223372036854775807) (hk0 : -9223372036854775808 ≤ kinds) (hk1 : kinds ≤ 9223372036854775807) :
    Calls Tryd.prog 5 #[v, .int .i64 kinds] w fun e w' => e = .returned (.int .i64 (stErr l kinds)) ∧ w = w' := by
  by_cases h2 : l.length < 2
  · obtain ⟨a, c, rfl⟩ := hr.val
    have hR : Hid (stErr l kinds = 5) := Lib.hid (by simp [stErr, h2])
    clear hr
    go_enter Tryd.func5, Tryd.ntmps5
    go_wp2
    go_ret
    exact ⟨by rw [hR.out]; rfl, rfl⟩
  by_cases h5 : 5 < l.length
  · obtain ⟨a, c, rfl⟩ := hr.val
    have hR : Hid (stErr l kinds = 4) := Lib.hid (by simp [stErr, h2, h5])
    clear hr
    go_enter Tryd.func5, Tryd.ntmps5
    go_wp2
    go_ret
    exact ⟨by rw [hR.out]; rfl, rfl⟩
  obtain ⟨b, off, c, rfl, _, hc⟩ := hr.form (by omega)
  clear hr
  obtain ⟨n, hN⟩ : ∃ n, Hid (l.length = n) := ⟨_, Lib.hid rfl⟩
  have HC : Hid (∀ j, j < n → w.cell? ⟨b, off + j, none⟩ = some (.int .i64 (l.getD j 0))) := Lib.hid (by rw [← hN.out]; exact hc)
  clear hc
  rw [hN.out] at h2 h5 hlb ⊢
  cases hk : inB kinds n 8 with
  | false =>
    have hR : Hid (stErr l kinds = 1) := Lib.hid (by simp [stErr, hN.out, h2, h5, hk])
    go_enter Tryd.func5, Tryd.ntmps5
    go_wp2_with (go_at_call 19; refine (ref6In_any _ _ _ _).mono ?_; rintro e w' ⟨rfl, rfl⟩)
    go_ret
    exact ⟨by rw [hR.out]; rfl, rfl⟩
  | true =>
    have hkb : (n : Int) ≤ kinds ∧ kinds ≤ 8 := by simpa [inB] using hk
    obtain ⟨hkb1, hkb2⟩ := hkb
    go_enter Tryd.func5, Tryd.ntmps5
    go_wp2_with (go_at_call 19; refine (ref6In_any _ _ _ _).mono ?_; rintro e w' ⟨rfl, rfl⟩)
    go_loop [5] (fun i => ∃ k : Nat, k ≤ n ∧ i = .int .i64 k ∧ Hid (∀ j, j < k → inB (l.getD j 0) 0 (kinds - 1) = true)) (fun i => n - (intOf i).toNat)
    case atStart => exact ⟨0, Nat.zero_le _, rfl, Lib.hid fun j hj => by omega⟩
    case round =>
      obtain ⟨k, hkn, rfl, HB⟩ := hrel
      by_cases hlt : k < n
      · obtain ⟨x, hX⟩ : ∃ x, Hid (l.getD k 0 = x) := ⟨_, Lib.hid rfl⟩
        have hcell : w.cell? ⟨b, off + k, none⟩ = some (.int .i64 x) := by rw [HC.out k hlt, hX.out]
        cases hin : inB x 0 (kinds - 1) with
        | false =>
          have hR : Hid (stErr l kinds = 1) := Lib.hid (by
            have : l.any (fun s => inB s 0 (kinds - 1) == false) = true := any_of_at (k := k) (by rw [hN.out]; exact hlt) (by rw [hX.out, hin]; rfl)
            unfold stErr; rw [hN.out, if_neg h2, if_neg h5, hk, if_neg (by simp), this]; rfl)
          go_wp2_with (go_at_call 19; refine (ref6In_any _ _ _ _).mono ?_; rintro e w' ⟨rfl, rfl⟩)
          go_ret
          exact ⟨by rw [hR.out]; rfl, rfl⟩
        | true =>
          have HB' : Hid (∀ j, j < k + 1 → inB (l.getD j 0) 0 (kinds - 1) = true) := Lib.hid fun j hj => by
            by_cases e : j = k
            · subst e; rw [hX.out]; exact hin
            · exact HB.out j (by omega)
          go_wp2_with (go_at_call 19; refine (ref6In_any _ _ _ _).mono ?_; rintro e w' ⟨rfl, rfl⟩)
          go_round
          case rel => exact ⟨k + 1, by omega, by go_num, HB'⟩
          case measure => simp [intOf]; omega
      · have hR : Hid (stErr l kinds = 0) := Lib.hid (by
          have : l.any (fun s => inB s 0 (kinds - 1) == false) = false := any_none fun j hj => by
            rw [hN.out] at hj; rw [HB.out j (by omega)]; rfl
          unfold stErr; rw [hN.out, if_neg h2, if_neg h5, hk, if_neg (by simp), this]; rfl)
        go_wp2
        go_ret
        exact ⟨by rw [hR.out]; rfl, rfl⟩


/-- A number put into a set. -/
theorem with_any (x k : Nat) (w : World) (hx : x < 2 ^ k) (hk : k ≤ 4) :
    Calls Tryd.prog 9 #[.int .i64 x, .int .i64 k] w fun e w' => e = .returned (.int .i64 (x + 2 ^ k : Nat)) ∧ w = w' := by
  have hle : 2 ^ k ≤ 2 ^ 4 := Nat.pow_le_pow_right (by omega) hk
  have HB := Lib.hid (bit_any x k (by omega) (by omega) w)
  have hb : bitB x k = false := by unfold bitB; rw [Nat.div_eq_of_lt hx]; rfl
  rw [hb] at HB
  have HP := Lib.hid (pow2_any k w (by omega))
  obtain ⟨p, hp⟩ : ∃ p, Hid (2 ^ k = p) := ⟨_, Lib.hid rfl⟩
  rw [hp.out] at HP hx hle ⊢
  have hw : wrap64 ((x : Int) + p) = x + p := IntWalk.wrap64_in _ (by omega)
  clear hb hx hle hk
  go_enter Tryd.func9, Tryd.ntmps9
  go_wp2_with fail
  refine HB.out.mono ?_
  rintro e w' ⟨rfl, rfl⟩
  go_wp2_with fail
  refine HP.out.mono ?_
  rintro e w' ⟨rfl, rfl⟩
  go_wp2
  go_ret
  exact ⟨ret_int (by rw [hw]; push_cast; rfl), rfl⟩

set_option maxHeartbeats 1000000 in
/-- A list with one place changed. -/
theorem refSet_any (S : Nat → Prop) (v : Value) (l : List Int) (i : Nat) (x : Int) (w : World) (hr : Rd S w v l) (hi : i < l.length) (hn : l.length ≤ 1000) :
    Calls Tryd.prog 23 #[v, .int .i64 i, .int .i64 x] w fun e w' => ∃ v', e = .returned v' ∧ Chg NoF w w' ∧ Rd (fun _ => True) w' v' (l.set i x) := by
  obtain ⟨i0, hi0, hz0, hz1, hz2⟩ := info_parts infoInt
  obtain ⟨b, off, c, rfl, _, hc⟩ := hr.form (by omega)
  have HC : Hid (∀ j u, (l.map (Value.int .i64))[j]? = some u → w.cell? (Addr.add ⟨b, off, none⟩ j) = some u) := Lib.hid fun j u hj => by
    have hjn : j < l.length := by have := (List.getElem?_eq_some_iff.1 hj).1; simpa using this
    rw [Addr.add_lit, hc j hjn, ← hj]
    simp [List.getD, hjn]
  obtain ⟨n, hN⟩ : ∃ n, Hid (l.length = n) := ⟨_, Lib.hid rfl⟩
  obtain ⟨vs, hV⟩ : ∃ vs : List Value, Hid (l.map (Value.int .i64) = vs) := ⟨_, Lib.hid rfl⟩
  have HL : Hid (vs.length = n) := Lib.hid (by rw [← hV.out, ← hN.out]; simp)
  have HO : Hid (∀ u ∈ vs, u.oneCell' = true) := Lib.hid (by rw [← hV.out]; intro u hu; obtain ⟨x, _, rfl⟩ := List.mem_map.1 hu; rfl)
  rw [hV.out] at HC
  rw [hN.out] at hi hn
  rw [hN.out]
  clear hr hc
  have HI := Lib.hid hi
  have hin : (i : Int) < n := by omega
  obtain ⟨y, hY⟩ : ∃ y, Hid (l.getD i 0 = y) := ⟨_, Lib.hid rfl⟩
  have HCELL : Hid (∀ (g cap : Nat) (w1 : World), w1.ownsRow w.heap.size 3 1 (.slice (some ⟨g, 0, none⟩) (0 + n) cap) (0 + n) ([] ++ vs) → w1.cell? ⟨g, i, none⟩ = some (.int .i64 y) ∧ w1.frozen? ⟨g, i, none⟩ = false) := Lib.hid fun g cap w1 hown => by
    have hrow : Own w1 (fun _ => 0) 0 3 1 (.slice (some ⟨g, 0, none⟩) (0 + n) cap) (0 + n) ([] ++ vs) := ⟨owns_zero hown, fun _ _ => rfl⟩
    rw [Nat.zero_add, List.nil_append] at hrow
    refine ⟨?_, hrow.row.frozenAt i⟩
    rw [hrow.row.cellAt i (by rw [Nat.mul_one]; exact HI.out), ← hV.out, ← hY.out]
    simp [List.getD, hN.out, HI.out]
  go_enter Tryd.func23, Tryd.ntmps23
  go_wp2_with (at_builtin; refine wpList_append_lies _ rfl _ _ 22 rfl w.heap.size 3 i0 (.int .i64 0) 1 8 Tryd.underlying22 hi0 hz0 hz1 hz2 rfl (by decide) (.slice none 0 0) 0 [] rfl (World.ownsRow_nil _ _ _ _) ⟨b, off, none⟩ n c vs rfl (by rw [HL.out]; simp) HC.out HO.out (by omega) (by unfold maxLen; omega) (by omega) (Nat.le_refl _) _ rfl ?_; intro g cap w1 hown hgrow hat hlt; obtain ⟨c0, f0⟩ := HCELL.out g cap w1 hown; have HW := Lib.hid hown; have HGW := Lib.hid hgrow; have HAT := Lib.hid hat; clear hown hgrow hat)
  have HC1 : Hid (Chg NoF w w1) := Lib.hid ((Chg.refl _ w).grown HGW.out (fun k hk => by simp [Value.ownBlock] at hk))
  have HGE : Hid (w.heap.size ≤ g) := Lib.hid (by
    rcases HAT.out with h | h
    · simp [Value.ownBlock] at h
    · omega)
  try go_wp2
  go_ret
  refine ⟨_, rfl, HC1.out.setCell (.inr HGE.out) _, ?_⟩
  refine Rd.ofOwns (e := 3) (base := 0) (n := n) ?_ (fun _ _ => trivial)
  have hrow : Own w1 (fun _ => 0) 0 3 1 (.slice (some ⟨g, 0, none⟩) (0 + n) cap) (0 + n) ([] ++ vs) := ⟨owns_zero HW.out, fun _ _ => rfl⟩
  rw [Nat.zero_add, List.nil_append] at hrow
  have := (hrow.stored i (.int .i64 x)).1
  rw [List.map_set, hV.out]
  exact this

set_option maxHeartbeats 1000000 in
/-- The states behind a move. -/
theorem refMoved_any (S : Nat → Prop) (v : Value) (l : List Int) (kinds : Int) (i : Nat) (w : World) (hr : Rd S w v l) (h0 : stErr l kinds = 0) (hi : i < l.length) :
    Calls Tryd.prog 12 #[v, .int .i64 kinds, .int .i64 i] w fun e w' => ∃ v', e = .returned v' ∧ Chg NoF w w' ∧ Rd (fun _ => True) w' v' (moved l kinds i) := by
  obtain ⟨hg1, hg2, hg3, hg4, hg5⟩ := stErr_good h0
  obtain ⟨b, off, c, rfl, hS, hc⟩ := hr.form (by omega)
  have HS := Lib.hid (fun j (hj : j < l.length) x => refSet_any S _ l j x w hr hj (by omega))
  have hb0 := hg5 0 (by omega)
  by_cases hi0 : i = 0
  · subst hi0
    have h1 := hc 0 hi
    by_cases hx : l.getD 0 0 = kinds - 1
    · have HM : Hid (moved l kinds 0 = l.set 0 0) := Lib.hid (by unfold moved; rw [if_pos rfl, hx, show kinds - 1 + 1 = kinds by omega, Int.emod_self])
      have HS0 := Lib.hid (HS.out 0 hi 0)
      obtain ⟨y, hY⟩ : ∃ y, Hid (l.getD 0 0 = y) := ⟨_, Lib.hid rfl⟩
      rw [hY.out] at h1 hx
      have hb : (y == kinds - 1) = true := by rw [hx]; simp
      have hw : wrap64 (kinds - 1) = kinds - 1 := IntWalk.wrap64_in _ (by omega)
      rw [Nat.add_zero] at h1
      obtain ⟨n, hN⟩ : ∃ n, Hid (l.length = n) := ⟨_, Lib.hid rfl⟩
      rw [hN.out] at hi HS0 ⊢
      have hn : (0 : Int) < n := by omega
      clear hc hr hx hg5 hb0 HS h0
      go_enter Tryd.func12, Tryd.ntmps12
      go_wp2_with fail
      refine HS0.out.mono ?_
      rintro e w' ⟨v', rfl, hc, hrd⟩
      go_wp2
      go_ret
      exact ⟨v', rfl, hc, by rw [HM.out]; exact hrd⟩
    · have HM : Hid (moved l kinds 0 = l.set 0 (l.getD 0 0 + 1)) := Lib.hid (by unfold moved; rw [if_pos rfl, Int.emod_eq_of_lt (by omega) (by omega)])
      have HS0 := Lib.hid (HS.out 0 hi (l.getD 0 0 + 1))
      obtain ⟨y, hY⟩ : ∃ y, Hid (l.getD 0 0 = y) := ⟨_, Lib.hid rfl⟩
      rw [hY.out] at h1 hx HS0 HM hb0
      have hb : (y == kinds - 1) = false := by rw [beq_eq_false_iff_ne]; exact hx
      have hw : wrap64 (kinds - 1) = kinds - 1 := IntWalk.wrap64_in _ (by omega)
      have hw2 : wrap64 (y + 1) = y + 1 := IntWalk.wrap64_in _ (by omega)
      rw [Nat.add_zero] at h1
      obtain ⟨n, hN⟩ : ∃ n, Hid (l.length = n) := ⟨_, Lib.hid rfl⟩
      rw [hN.out] at hi HS0 ⊢
      have hn : (0 : Int) < n := by omega
      clear hc hr hx hg5 hb0 HS h0
      go_enter Tryd.func12, Tryd.ntmps12
      go_wp2_with fail
      refine HS0.out.mono ?_
      rintro e w' ⟨v', rfl, hc, hrd⟩
      go_wp2
      go_ret
      exact ⟨v', rfl, hc, by rw [HM.out]; exact hrd⟩
  · have HM : Hid (moved l kinds i = l.set i (l.getD (i - 1) 0)) := Lib.hid (by unfold moved; rw [if_neg hi0])
    have h1 := hc (i - 1) (by omega)
    have HS0 := Lib.hid (HS.out i hi (l.getD (i - 1) 0))
    obtain ⟨y, hY⟩ : ∃ y, Hid (l.getD (i - 1) 0 = y) := ⟨_, Lib.hid rfl⟩
    rw [hY.out] at h1 HS0 HM
    have h4 : (0 : Int) < i := by omega
    have h5 : ((i : Int) - 1).toNat = i - 1 := by omega
    have h6 : (1 : Int) ≤ i := by omega
    obtain ⟨n, hN⟩ : ∃ n, Hid (l.length = n) := ⟨_, Lib.hid rfl⟩
    rw [hN.out] at hi HS0 hg2 ⊢
    have h7 : (i : Int) < n := by omega
    have hw : wrap64 ((i : Int) - 1) = i - 1 := IntWalk.wrap64_in _ (by omega)
    clear hc hr hg5 hb0 HS h0 hi0
    go_enter Tryd.func12, Tryd.ntmps12
    go_wp2_with fail
    refine HS0.out.mono ?_
    rintro e w' ⟨v', rfl, hc, hrd⟩
    go_wp2
    go_ret
    exact ⟨v', rfl, hc, by rw [HM.out]; exact hrd⟩
end Go.Proofs.YtghamcjcihiopaaDoor
