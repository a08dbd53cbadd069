/-
  The ring that comes to order: what each function of package steady answers, and what it leaves of the world.
  Conditions: the states are read as a list of integers; kinds fits an int.
-/
import Derived.Test.YtghamcjcihiopaaDoorRows
import Derived.Test.YtghamcjcihiopaaDoorRegion
import Derived.Test.YtghamcjcihiopaaDoorSame
import Derived.WalkSpells
import Derived.WalkLawsBesides
import Derived.BigQuiet
import Derived.Deep.QuietTactic
namespace Go.Proofs.YtghamcjcihiopaaDoor
open Go Go.RowKit

/-- A Bool function that is not reducible: may node i move? -/
def mayB (l : List Int) (i : Nat) : Bool := if i = 0 then l.getD 0 0 == l.getD (l.length - 1) 0 else l.getD i 0 != l.getD (i - 1) 0

set_option maxHeartbeats 400000 in
theorem may_any (S : Nat → Prop) (v : Value) (i : Nat) (l : List Int) (w : World) (hi : i < l.length) (hn : l.length ≤ 5) (hr : Rd S w v l) :
    Calls Tryd.prog 22 #[v, .int .i64 i] w fun e w' => e = .returned (.bool (mayB l i)) ∧ ∃ k, w' = w.drewN k := by
  obtain ⟨b, off, c, rfl, _, hc⟩ := hr.form (by omega)
  by_cases h : i = 0
  · subst h
    obtain ⟨n, hN⟩ : ∃ n, Hid (l.length = n) := ⟨_, Lib.hid rfl⟩
    rw [hN.out] at hi hn hc ⊢
    have h1 := hc 0 hi
    have h2 := hc (n - 1) (by omega)
    obtain ⟨x, hX⟩ : ∃ x, Hid (l.getD 0 0 = x) := ⟨_, Lib.hid rfl⟩
    obtain ⟨y, hY⟩ : ∃ y, Hid (l.getD (n - 1) 0 = y) := ⟨_, Lib.hid rfl⟩
    rw [hX.out, Nat.add_zero] at h1
    rw [hY.out] at h2
    have h5 : ((n : Int) - 1).toNat = n - 1 := by omega
    have h6 : (1 : Int) ≤ n := by omega
    clear hc
    go_enter Tryd.func22, Tryd.ntmps22
    go_wp2
    go_quiet (fail)
    go_wp2
    go_ret
    exact ⟨ret_bool (by simp only [mayB, if_true, hN.out, hX.out, hY.out]), _, rfl⟩
  · obtain ⟨n, hN⟩ : ∃ n, Hid (l.length = n) := ⟨_, Lib.hid rfl⟩
    rw [hN.out] at hi hn hc ⊢
    have h1 := hc i hi
    have h2 := hc (i - 1) (by omega)
    obtain ⟨x, hX⟩ : ∃ x, Hid (l.getD i 0 = x) := ⟨_, Lib.hid rfl⟩
    obtain ⟨y, hY⟩ : ∃ y, Hid (l.getD (i - 1) 0 = y) := ⟨_, Lib.hid rfl⟩
    rw [hX.out] at h1
    rw [hY.out] at h2
    have h4 : ((i : Int) == 0) = false := by simp [h]
    have h5 : ((i : Int) - 1).toNat = i - 1 := by omega
    have h6 : (1 : Int) ≤ i := by omega
    have h7 : (i : Int) < n := by omega
    have H := Lib.hid h
    clear hc h
    go_enter Tryd.func22, Tryd.ntmps22
    go_wp2
    go_quiet (fail)
    go_wp2
    go_ret
    exact ⟨ret_bool (by simp only [mayB, if_neg H.out, hX.out, hY.out]), _, rfl⟩

/-- What is wrong with a ring's states. -/
def stErr (l : List Int) (kinds : Int) : Int :=
  if l.length < 2 then 5 else if 5 < l.length then 4 else if inB kinds l.length 8 = false then 1 else if l.any (fun s => inB s 0 (kinds - 1) == false) then 1 else 0

theorem any_of_at {l : List Int} {f : Int → Bool} {k : Nat} (hk : k < l.length) (h : f (l.getD k 0) = true) : l.any f = true :=
  List.any_eq_true.2 ⟨l[k], List.getElem_mem hk, by simpa [List.getD, hk] using h⟩
theorem any_none {l : List Int} {f : Int → Bool} (h : ∀ k, k < l.length → f (l.getD k 0) = false) : l.any f = false := by
  rw [Bool.eq_false_iff]; intro ht
  obtain ⟨x, hx, hf⟩ := List.any_eq_true.1 ht
  obtain ⟨k, hk, rfl⟩ := List.getElem_of_mem hx
  have := h k hk
  simp [List.getD, hk, hf] at this

set_option maxHeartbeats 1000000 in
theorem check_any (S : Nat → Prop) (v : Value) (l : List Int) (kinds : Int) (w : World) (hr : Rd S w v l) (hlb : l.length ≤ 9223372036854775807) (hk0 : -9223372036854775808 ≤ kinds) (hk1 : kinds ≤ 9223372036854775807) :
    Calls Tryd.prog 7 #[v, .int .i64 kinds] w fun e w' => e = .returned (errV (stErr l kinds)) ∧ w = w' := by
  by_cases h2 : l.length < 2
  · obtain ⟨a, c, rfl⟩ := hr.val
    have hR : Hid (stErr l kinds = 5) := Lib.hid (by simp [stErr, h2])
    clear hr
    go_enter Tryd.func7, Tryd.ntmps7
    go_wp2
    go_ret
    exact ⟨by rw [hR.out]; rfl, rfl⟩
  by_cases h5 : 5 < l.length
  · obtain ⟨a, c, rfl⟩ := hr.val
    have hR : Hid (stErr l kinds = 4) := Lib.hid (by simp [stErr, h2, h5])
    clear hr
    go_enter Tryd.func7, Tryd.ntmps7
    go_wp2
    go_ret
    exact ⟨by rw [hR.out]; rfl, rfl⟩
  obtain ⟨b, off, c, rfl, _, hc⟩ := hr.form (by omega)
  clear hr
  obtain ⟨n, hN⟩ : ∃ n, Hid (l.length = n) := ⟨_, Lib.hid rfl⟩
  have HC : Hid (∀ j, j < n → w.cell? ⟨b, off + j, none⟩ = some (.int .i64 (l.getD j 0))) := Lib.hid (by rw [← hN.out]; exact hc)
  clear hc
  rw [hN.out] at h2 h5 hlb ⊢
  cases hk : inB kinds n 8 with
  | false =>
    have hR : Hid (stErr l kinds = 1) := Lib.hid (by simp [stErr, hN.out, h2, h5, hk])
    go_enter Tryd.func7, Tryd.ntmps7
    go_wp2_with (go_at_call 21; refine (within_any _ _ _ _).mono ?_; rintro e w' ⟨rfl, rfl⟩)
    go_ret
    exact ⟨by rw [hR.out]; rfl, rfl⟩
  | true =>
    have hkb : (n : Int) ≤ kinds ∧ kinds ≤ 8 := by simpa [inB] using hk
    obtain ⟨hkb1, hkb2⟩ := hkb
    go_enter Tryd.func7, Tryd.ntmps7
    go_wp2_with (go_at_call 21; refine (within_any _ _ _ _).mono ?_; rintro e w' ⟨rfl, rfl⟩)
    go_loop [6, 23] (fun _ i => ∃ k : Nat, k ≤ n ∧ i = .int .i64 k ∧ Hid (∀ j, j < k → inB (l.getD j 0) 0 (kinds - 1) = true)) (fun _ i => n - (intOf i).toNat)
    case atStart => exact ⟨0, Nat.zero_le _, rfl, Lib.hid fun j hj => by omega⟩
    case round =>
      obtain ⟨k, hkn, rfl, HB⟩ := hrel
      by_cases hlt : k < n
      · obtain ⟨x, hX⟩ : ∃ x, Hid (l.getD k 0 = x) := ⟨_, Lib.hid rfl⟩
        have hcell : w.cell? ⟨b, off + k, none⟩ = some (.int .i64 x) := by rw [HC.out k hlt, hX.out]
        cases hin : inB x 0 (kinds - 1) with
        | false =>
          have hR : Hid (stErr l kinds = 1) := Lib.hid (by
            have : l.any (fun s => inB s 0 (kinds - 1) == false) = true := any_of_at (k := k) (by rw [hN.out]; exact hlt) (by rw [hX.out, hin]; rfl)
            unfold stErr; rw [hN.out, if_neg h2, if_neg h5, hk, if_neg (by simp), this]; rfl)
          go_wp2_with (go_at_call 21; refine (within_any _ _ _ _).mono ?_; rintro e w' ⟨rfl, rfl⟩)
          go_ret
          exact ⟨by rw [hR.out]; rfl, rfl⟩
        | true =>
          have HB' : Hid (∀ j, j < k + 1 → inB (l.getD j 0) 0 (kinds - 1) = true) := Lib.hid fun j hj => by
            by_cases e : j = k
            · subst e; rw [hX.out]; exact hin
            · exact HB.out j (by omega)
          go_wp2_with (go_at_call 21; refine (within_any _ _ _ _).mono ?_; rintro e w' ⟨rfl, rfl⟩)
          go_round
          case rel => exact ⟨k + 1, by omega, by go_num, HB'⟩
          case measure => simp [intOf]; omega
      · have hR : Hid (stErr l kinds = 0) := Lib.hid (by
          have : l.any (fun s => inB s 0 (kinds - 1) == false) = false := any_none fun j hj => by
            rw [hN.out] at hj; rw [HB.out j (by omega)]; rfl
          unfold stErr; rw [hN.out, if_neg h2, if_neg h5, hk, if_neg (by simp), this]; rfl)
        go_wp2
        go_ret
        exact ⟨by rw [hR.out]; rfl, rfl⟩

/-- The states behind a move of node i. -/
def moved (l : List Int) (kinds : Int) (i : Nat) : List Int := if i = 0 then l.set 0 ((l.getD 0 0 + 1) % kinds) else l.set i (l.getD (i - 1) 0)

/-- What is wrong with a move. -/
def mvErr (l : List Int) (kinds i : Int) : Int :=
  if stErr l kinds ≠ 0 then stErr l kinds else if inB i 0 ((l.length : Int) - 1) = false then 1 else if mayB l i.toNat = false then 7 else 0

theorem stErr_good {l : List Int} {kinds : Int} (h : stErr l kinds = 0) : 2 ≤ l.length ∧ l.length ≤ 5 ∧ (l.length : Int) ≤ kinds ∧ kinds ≤ 8 ∧ ∀ j, j < l.length → 0 ≤ l.getD j 0 ∧ l.getD j 0 < kinds := by
  unfold stErr at h
  split at h
  · omega
  split at h
  · omega
  split at h
  · omega
  split at h
  · omega
  rename_i h1 h2 h3 h4
  simp [inB] at h3
  refine ⟨by omega, by omega, by omega, by omega, fun j hj => ?_⟩
  simp [inB] at h4
  have := h4 l[j] (List.getElem_mem hj)
  simp [List.getD, hj]
  omega

/-- The post of a move that is refused, and of one that is made. -/
def MovePost (w : World) (l : List Int) (kinds i : Int) (e : Ending) (w' : World) : Prop :=
  ∃ v, e = .returned (.tuple #[v, errV (mvErr l kinds i)]) ∧ Chg NoF w w' ∧ (mvErr l kinds i = 0 → Rd (fun b => w.heap.size ≤ b) w' v (moved l kinds i.toNat)) ∧ (mvErr l kinds i ≠ 0 → v = .slice none 0 0)

set_option maxHeartbeats 1000000 in
theorem move_any (S : Nat → Prop) (v : Value) (l : List Int) (kinds i : Int) (w : World) (hr : Rd S w v l) (hlb : l.length ≤ 9223372036854775807) (hk0 : -9223372036854775808 ≤ kinds) (hk1 : kinds ≤ 9223372036854775807) :
    Calls Tryd.prog 13 #[v, .int .i64 kinds, .int .i64 i] w (MovePost w l kinds i) := by
  have hchk := Lib.hid (check_any S v l kinds w hr hlb hk0 hk1)
  by_cases h0 : stErr l kinds = 0
  case neg =>
    have hR : Hid (mvErr l kinds i = stErr l kinds) := Lib.hid (by unfold mvErr; rw [if_pos h0])
    have hE : Hid (errV (stErr l kinds) = .iface 41 (.int .i64 (stErr l kinds))) := Lib.hid (by unfold errV; rw [if_neg h0])
    have H0 := Lib.hid h0
    obtain ⟨ec, hec⟩ : ∃ ec, Hid (stErr l kinds = ec) := ⟨_, Lib.hid rfl⟩
    rw [hec.out] at hchk hR hE H0
    rw [hE.out] at hchk
    clear h0 hr
    go_enter Tryd.func13, Tryd.ntmps13
    go_wp2_with (go_at_call 7; refine hchk.out.mono ?_; rintro e w' ⟨rfl, rfl⟩)
    go_ret2
    exact ⟨.slice none 0 0, by rw [hR.out, hE.out]; rfl, Chg.refl _ _, fun h => absurd (hR.out ▸ h) H0.out, fun _ => rfl⟩
  case pos =>
    have hG := stErr_good h0
    obtain ⟨hg1, hg2, hg3, hg4, hg5⟩ := hG
    have hE : errV (stErr l kinds) = .nilIface := by unfold errV; rw [if_pos h0]
    rw [hE] at hchk
    obtain ⟨b, off, c, rfl, hS, hc⟩ := hr.form (by omega)
    cases hin : inB i 0 ((l.length : Int) - 1) with
    | false =>
      have hR : Hid (mvErr l kinds i = 1) := Lib.hid (by unfold mvErr; rw [if_neg (by simp [h0]), if_pos hin])
      clear hc hr h0 hE
      obtain ⟨n, hN⟩ : ∃ n, Hid (l.length = n) := ⟨_, Lib.hid rfl⟩
      rw [hN.out] at hin hchk hg2 ⊢
      clear hg5
      go_enter Tryd.func13, Tryd.ntmps13
      go_wp2_with (first | (go_at_call 7; refine hchk.out.mono ?_; rintro e w' ⟨rfl, rfl⟩) | (go_at_call 21; refine (within_any _ _ _ _).mono ?_; rintro e w' ⟨rfl, rfl⟩))
      go_ret2
      exact ⟨.slice none 0 0, by rw [hR.out]; rfl, Chg.refl _ _, (fun h => by rw [hR.out] at h; cases h), fun _ => rfl⟩
    | true =>
      have hib : 0 ≤ i ∧ i ≤ (l.length : Int) - 1 := by simpa [inB] using hin
      obtain ⟨k, rfl⟩ := Int.eq_ofNat_of_zero_le hib.1
      have hkl : k < l.length := by omega
      have hmay := Lib.hid (fun w1 (h1 : Rd S w1 (.slice (some ⟨b, off, none⟩) l.length c) l) => may_any S _ k l w1 hkl hg2 h1)
      have HR := Lib.hid hr
      cases hmb : mayB l k with
      | false =>
        have hR : Hid (mvErr l kinds k = 7) := Lib.hid (by unfold mvErr; rw [if_neg (by simp [h0]), if_neg (by simp [hin]), if_pos (by simpa using hmb)])
        rw [hmb] at hmay
        clear hc hr h0 hE hmb
        obtain ⟨n, hN⟩ : ∃ n, Hid (l.length = n) := ⟨_, Lib.hid rfl⟩
        rw [hN.out] at hin hchk hg2 hmay HR hkl ⊢
        clear hg5
        go_enter Tryd.func13, Tryd.ntmps13
        go_wp2_with (first | (go_at_call 7; refine hchk.out.mono ?_; rintro e w' ⟨rfl, rfl⟩) | (go_at_call 21; refine (within_any _ _ _ _).mono ?_; rintro e w' ⟨rfl, rfl⟩) | (go_at_call 22; refine (hmay.out _ HR.out).mono ?_; rintro e w' ⟨rfl, k', rfl⟩))
        go_ret2
        exact ⟨.slice none 0 0, by rw [hR.out]; rfl, (Chg.refl _ _).drewN _, (fun h => by rw [hR.out] at h; cases h), fun _ => rfl⟩
      | true =>
        have hR : Hid (mvErr l kinds k = 0) := Lib.hid (by unfold mvErr; rw [if_neg (by simp [h0]), if_neg (by simp [hin]), if_neg (by simpa using hmb)])
        rw [hmb] at hmay
        have hclone := Lib.hid (fun w1 (h1 : Rd S w1 (.slice (some ⟨b, off, none⟩) l.length c) l) => clone_any S _ l w1 h1 (by omega))
        have HG5 := Lib.hid hg5
        clear hc hr h0 hE hmb hg5
        obtain ⟨n, hN⟩ : ∃ n, Hid (l.length = n) := ⟨_, Lib.hid rfl⟩
        rw [hN.out] at hin hchk hg1 hg2 hg3 hmay HR hkl hclone hib hlb ⊢
        obtain ⟨hib1, hib2⟩ := hib
        go_enter Tryd.func13, Tryd.ntmps13
        go_wp2_with (first | (go_at_call 7; refine hchk.out.mono ?_; rintro e w' ⟨rfl, rfl⟩) | (go_at_call 21; refine (within_any _ _ _ _).mono ?_; rintro e w' ⟨rfl, rfl⟩) | (go_at_call 22; refine (hmay.out _ HR.out).mono ?_; rintro e w' ⟨rfl, k', rfl⟩))
        refine (hclone.out _ (HR.out.keep ((Chg.refl NoF _).drewN _) (fun _ _ => id))).mono ?_
        rintro e w1 ⟨v', rfl, hown, hc1⟩
        obtain ⟨g, cap, rfl, hg, hglt⟩ := hown.form (by omega)
        have hgw : w.heap.size ≤ g := hg
        have hkn : k < n := by omega
        have hcell : ∀ j, j < n → w1.cell? ⟨g, j, none⟩ = some (.int .i64 (l.getD j 0)) := fun j hj => by
          rw [hown.cellAt j (by rw [Nat.mul_one]; exact hj)]; simp [List.getD, hN.out, hj]
        have hfz : ∀ j, w1.frozen? ⟨g, j, none⟩ = false := fun j => hown.frozenAt j
        have hcw : Chg NoF w w1 := ((Chg.refl NoF w).drewN k').trans hc1
        have HOWN := Lib.hid hown
        clear hown
        by_cases hk : k = 0
        · subst hk
          obtain ⟨x, hX⟩ : ∃ x, Hid (l.getD 0 0 = x) := ⟨_, Lib.hid rfl⟩
          have hb0 := HG5.out 0 (by rw [hN.out]; omega)
          have h1 := hcell 0 (by omega)
          have f1 := hfz 0
          rw [hX.out] at h1 hb0
          obtain ⟨hb1, hb2⟩ := hb0
          clear hcell hfz
          go_wp2
          go_ret2
          refine ⟨.slice (some ⟨g, 0, none⟩) n cap, by rw [hR.out]; rfl, hcw.setCell (.inr hgw) _, (fun _ => ?_), (fun h => absurd hR.out h)⟩
          refine Rd.ofOwns (e := 3) (base := (w.drewN k').heap.size) (n := n) ?_ (fun b hb => by simp [Value.ownBlock] at hb; show w.heap.size ≤ b; omega)
          have := (HOWN.out.stored 0 (.int .i64 ((x + 1) % kinds))).1
          simp only [moved, Int.toNat_natCast, if_true, hX.out]
          rw [List.map_set]
          exact this
        · obtain ⟨x, hX⟩ : ∃ x, Hid (l.getD (k - 1) 0 = x) := ⟨_, Lib.hid rfl⟩
          have h1 := hcell (k - 1) (by omega)
          have h1' := hcell k (by omega)
          have f1 := hfz k
          rw [hX.out] at h1
          have h4 : ((k : Int) == 0) = false := by simp [hk]
          have h5 : ((k : Int) - 1).toNat = k - 1 := by omega
          have h6 : (1 : Int) ≤ k := by omega
          have h7 : (k : Int) < n := by omega
          have HK := Lib.hid hk
          clear hcell hfz hk hcw
          obtain ⟨y, hY⟩ : ∃ y, Hid (l.getD k 0 = y) := ⟨_, Lib.hid rfl⟩
          rw [hY.out] at h1'
          have hcw : Chg NoF w w1 := ((Chg.refl NoF w).drewN k').trans hc1
          go_wp2
          go_ret2
          refine ⟨.slice (some ⟨g, 0, none⟩) n cap, by rw [hR.out]; rfl, hcw.setCell (.inr hgw) _, (fun _ => ?_), (fun h => absurd hR.out h)⟩
          refine Rd.ofOwns (e := 3) (base := (w.drewN k').heap.size) (n := n) ?_ (fun b hb => by simp [Value.ownBlock] at hb; show w.heap.size ≤ b; omega)
          have := (HOWN.out.stored k (.int .i64 x)).1
          simp only [moved, Int.toNat_natCast, if_neg HK.out, hX.out]
          rw [List.map_set]
          exact this

end Go.Proofs.YtghamcjcihiopaaDoor
