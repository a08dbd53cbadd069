/-
  The net of work and thanks: what is told of it.
  Conditions: a net as New made it, with at most 5 nodes.
-/
import Derived.Test.YtbckjmbhipofaaaDoorCaE
namespace Go.Proofs.YtbckjmbhipofaaaDoor
open Go Go.RowKit

set_option maxHeartbeats 1000000 in
theorem calm_any (S : Nat → Prop) (w : World) (t g : Nat) (s : CNet) (h : CIn S w t g s) :
    Calls Tryd.prog 14 #[.pointer (some ⟨t, 0, none⟩)] w fun e w' => e = .returned (.bool s.calm) ∧ w = w' := by
  obtain ⟨V, tag, _, h⟩ := h
  have c3 := h.top3
  clear h
  go_enter Tryd.func14, Tryd.ntmps14
  go_wp2
  go_ret
  exact ⟨rfl, rfl⟩

/-- The first so many of a set, as bits. -/
def wbits (f : Nat → Bool) : Nat → Nat
  | 0 => 0
  | k + 1 => wbits f k + (if f k = true then 2 ^ k else 0)

theorem wbits_lt (f : Nat → Bool) : ∀ k, wbits f k < 2 ^ k
  | 0 => by simp [wbits]
  | k + 1 => by
    have := wbits_lt f k
    rw [wbits, Nat.pow_succ]
    split <;> omega

theorem wbits_zero {f : Nat → Bool} : ∀ {n : Nat}, (∀ p, p < n → f p = false) → wbits f n = 0
  | 0, _ => rfl
  | n + 1, h => by rw [wbits, wbits_zero (fun p hp => h p (by omega)), if_neg (by rw [h n (by omega)]; simp)]

theorem or_new : ∀ k : Nat, k < 5 → ∀ y : Nat, y < 2 ^ k → bits BinOp.or IntKind.i64 (y : Int) (wrap64 (2 ^ k)) = ((y + 2 ^ k : Nat) : Int) := by decide +kernel

set_option maxHeartbeats 2000000 in
set_option maxRecDepth 100000 in
theorem works_any (S : Nat → Prop) (w : World) (t g : Nat) (s : CNet) (h : CIn S w t g s) (h0 : 0 < s.n) (h5 : s.n ≤ 5) :
    Calls Tryd.prog 13 #[.pointer (some ⟨t, 0, none⟩)] w fun e w' => e = .returned (.int .i64 (wbits s.works s.n)) ∧ Chg NoF w w' := by
  obtain ⟨V, tag, ⟨cN, vN⟩, h⟩ := h
  obtain ⟨hcell, hfr, htN, hSg, c0⟩ := h.nodeAt vN
  have HCE : Hid (∀ p, p < s.n → w.cell? ⟨g, p * 3, none⟩ = some (.bool (s.works p)) ∧ w.cell? ⟨g, p * 3 + 1, none⟩ = some (.int .i64 (s.parent p)) ∧ w.cell? ⟨g, p * 3 + 2, none⟩ = some (.int .i64 (s.owed p))) :=
    Lib.hid fun p hp => ⟨hcell p 0 hp (by omega), hcell p 1 hp (by omega), hcell p 2 hp (by omega)⟩
  obtain ⟨n, hN⟩ : ∃ n, Hid (s.n = n) := ⟨_, Lib.hid rfl⟩
  rw [hN.out] at c0 HCE h0 h5 ⊢
  clear hcell hfr h vN hSg htN
  go_enter Tryd.func13, Tryd.ntmps13
  go_wp2_with fail
  go_loopw [3, 11] (fun x i wr => ∃ k : Nat, k ≤ n ∧ i = .int .i64 k ∧ (∃ y : Nat, x = .int .i64 y ∧ Hid (wbits s.works k = y)) ∧ Hid (Chg NoF w wr)) (fun _ i _ => n - (intOf i).toNat)
  case atStart => exact ⟨0, Nat.zero_le _, rfl, ⟨0, rfl, Lib.hid rfl⟩, Lib.hid (Chg.refl _ _)⟩
  case round =>
    obtain ⟨k, hkn, rfl, ⟨y, rfl, HY⟩, HC⟩ := hrel
    by_cases hlt : k < n
    · have hk1 : (k : Int) < n := by omega
      obtain ⟨e0, e1, e2⟩ := HCE.out k hlt
      have d0 := HC.out.cell_some e0 (fun h => h)
      have d1 := HC.out.cell_some e1 (fun h => h)
      have d2 := HC.out.cell_some e2 (fun h => h)
      clear e0 e1 e2
      obtain ⟨wk, hWK⟩ : ∃ x, Hid (s.works k = x) := ⟨_, Lib.hid rfl⟩
      rw [hWK.out] at d0
      cases wk with
      | false =>
        have HY' : Hid (wbits s.works (k + 1) = y) := Lib.hid (by rw [wbits, if_neg (by rw [hWK.out]; simp), HY.out]; rfl)
        go_wp2
        go_roundw
        case rel => exact ⟨k + 1, by omega, by go_num, ⟨y, rfl, HY'⟩, Lib.hid (HC.out.alloc _)⟩
        case measure => simp [intOf]; omega
      | true =>
        have hy : y < 2 ^ k := by rw [← HY.out]; exact wbits_lt _ _
        have HO := Lib.hid (or_new k (by omega) y hy)
        have HY' : Hid (wbits s.works (k + 1) = y + 2 ^ k) := Lib.hid (by rw [wbits, if_pos hWK.out, HY.out])
        clear hy
        go_wp2
        go_roundw
        case rel => exact ⟨k + 1, by omega, by go_num, ⟨y + 2 ^ k, by rw [HO.out], HY'⟩, Lib.hid (HC.out.alloc _)⟩
        case measure => simp [intOf]; omega
    · obtain rfl : k = n := by omega
      go_wp2
      go_ret
      exact ⟨by rw [HY.out]; rfl, HC.out⟩

end Go.Proofs.YtbckjmbhipofaaaDoor
