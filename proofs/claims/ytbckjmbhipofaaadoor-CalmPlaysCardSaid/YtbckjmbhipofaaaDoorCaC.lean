/-
  The net of work and thanks: giving, stopping and stepping.
  Conditions: a net as New made it, with fewer than 1000 messages on each way, and of each node.
-/
import Derived.Test.YtbckjmbhipofaaaDoorCaB
namespace Go.Proofs.YtbckjmbhipofaaaDoor
open Go Go.RowKit

structure Sane (s : CNet) : Prop where
  n0 : 0 < s.n
  par : ∀ p, p < s.n → s.parent p < s.n
  len : ∀ p q, p < s.n → q < s.n → (s.ways p q).length < 1000
  owed : ∀ p, p < s.n → -1000 ≤ s.owed p ∧ s.owed p ≤ 1000
  sent : -1000 ≤ s.sent ∧ s.sent ≤ 1000

def ErrPost (S : Nat → Prop) (w : World) (t g : Nat) (n : Int) (s' : CNet) (e : Ending) (w' : World) : Prop :=
  e = .returned (errV n) ∧ CIn S w' t g s' ∧ Chg (fun k => ¬ S k) w w'

set_option maxHeartbeats 2000000 in
set_option maxRecDepth 100000 in
theorem give_any (S : Nat → Prop) (w : World) (t g : Nat) (s : CNet) (h : CIn S w t g s) (hs : Sane s) (p q : Int) :
    Calls Tryd.prog 8 #[.pointer (some ⟨t, 0, none⟩), .int .i64 p, .int .i64 q] w (ErrPost S w t g (s.giveErr p q) (s.give p q)) := by
  have HIN := Lib.hid h
  have HSA := Lib.hid hs
  have HP := Lib.hid (is_any S w t g s h hs.n0 p)
  have HQ := Lib.hid (is_any S w t g s h hs.n0 q)
  have bad : ∀ n : Int, s.giveErr p q = n → n ≠ 0 → ErrPost S w t g (s.giveErr p q) (s.give p q) (.returned (errV n)) w := fun n hn h0 =>
    ⟨by rw [hn], by unfold CNet.give; rw [if_neg (by rw [hn]; exact h0)]; exact HIN.out, Chg.refl _ _⟩
  have BAD := Lib.hid bad
  clear bad
  cases hip : s.is p with
  | false =>
    have hE : Hid (s.giveErr p q = 1) := Lib.hid (by unfold CNet.giveErr; rw [if_pos (.inl hip)])
    rw [hip] at HP
    clear h hs hip
    go_enter Tryd.func8, Tryd.ntmps8
    go_wp2_with fail
    refine HP.out.mono ?_
    rintro e w' ⟨rfl, rfl⟩
    go_wp2
    go_ret
    exact BAD.out 1 hE.out (by decide)
  | true =>
  cases hiq : s.is q with
  | false =>
    have hE : Hid (s.giveErr p q = 1) := Lib.hid (by unfold CNet.giveErr; rw [if_pos (.inr hiq)])
    rw [hip] at HP
    rw [hiq] at HQ
    clear h hs hip hiq
    go_enter Tryd.func8, Tryd.ntmps8
    go_wp2_with fail
    refine HP.out.mono ?_
    rintro e w' ⟨rfl, rfl⟩
    go_wp2_with fail
    refine HQ.out.mono ?_
    rintro e w' ⟨rfl, rfl⟩
    go_wp2
    go_ret
    exact BAD.out 1 hE.out (by decide)
  | true =>
  by_cases hpq : p = q
  · have hE : Hid (s.giveErr p q = 6) := Lib.hid (by unfold CNet.giveErr; rw [if_neg (by rw [hip, hiq]; simp), if_pos hpq])
    rw [hip] at HP
    rw [hiq] at HQ
    have hb : (p == q) = true := by rw [hpq]; simp
    clear h hs hip hiq hpq
    go_enter Tryd.func8, Tryd.ntmps8
    go_wp2_with fail
    refine HP.out.mono ?_
    rintro e w' ⟨rfl, rfl⟩
    go_wp2_with fail
    refine HQ.out.mono ?_
    rintro e w' ⟨rfl, rfl⟩
    go_wp2
    go_ret
    exact BAD.out 6 hE.out (by decide)
  have hb : (p == q) = false := by rw [beq_eq_false_iff_ne]; exact hpq
  have HPQ := Lib.hid hpq
  have HIP := Lib.hid hip
  have HIQ := Lib.hid hiq
  rw [hip] at HP
  rw [hiq] at HQ
  obtain ⟨a, rfl, ha⟩ := (s.is_iff p).1 hip
  obtain ⟨b, rfl, hbn⟩ := (s.is_iff q).1 hiq
  obtain ⟨V, tag, ⟨cN, vN⟩, h⟩ := h
  obtain ⟨hcell, hfr, htN, hSg, c0⟩ := h.nodeAt vN
  have d0 : w.cell? ⟨g, a * 3, none⟩ = some (.bool (s.works a)) := hcell a 0 ha (by omega)
  have d2 : w.cell? ⟨g, a * 3 + 2, none⟩ = some (.int .i64 (s.owed a)) := hcell a 2 ha (by omega)
  have g2 : w.frozen? ⟨g, a * 3 + 2, none⟩ = false := hfr _
  have f2 : w.frozen? ⟨t, 2, none⟩ = false := h.blk.frozen 2
  have c2 := h.top2
  have HH := Lib.hid h
  have VN := Lib.hid vN
  have HSG := Lib.hid hSg
  have htg : ¬ t = g := fun e => htN e.symm
  obtain ⟨ho1, ho2⟩ := hs.owed a ha
  obtain ⟨hs1, hs2⟩ := hs.sent
  obtain ⟨wk, hWK⟩ : ∃ x, Hid (s.works a = x) := ⟨_, Lib.hid rfl⟩
  obtain ⟨ow, hOW⟩ : ∃ x, Hid (s.owed a = x) := ⟨_, Lib.hid rfl⟩
  obtain ⟨se, hSE⟩ : ∃ x, Hid (s.sent = x) := ⟨_, Lib.hid rfl⟩
  obtain ⟨n, hN⟩ : ∃ n, Hid (s.n = n) := ⟨_, Lib.hid rfl⟩
  rw [hWK.out] at d0
  rw [hOW.out] at d2 ho1 ho2
  rw [hSE.out] at c2 hs1 hs2
  rw [hN.out] at c0 ha hbn
  have ha1 : (a : Int) < n := by omega
  have hb1 : (b : Int) < n := by omega
  clear hcell hfr h vN hSg hip hiq hpq hs
  cases wk with
  | false =>
    have hE : Hid (s.giveErr a b = 7) := Lib.hid (by unfold CNet.giveErr; rw [if_neg (by rw [HIP.out, HIQ.out]; simp), if_neg HPQ.out, Int.toNat_natCast, if_pos hWK.out])
    go_enter Tryd.func8, Tryd.ntmps8
    go_wp2_with fail
    refine HP.out.mono ?_
    rintro e w' ⟨rfl, rfl⟩
    go_wp2_with fail
    refine HQ.out.mono ?_
    rintro e w' ⟨rfl, rfl⟩
    go_wp2
    go_ret
    exact BAD.out 7 hE.out (by decide)
  | true =>
  by_cases h20 : se = 20
  · have hE : Hid (s.giveErr a b = 4) := Lib.hid (by unfold CNet.giveErr; rw [if_neg (by rw [HIP.out, HIQ.out]; simp), if_neg HPQ.out, Int.toNat_natCast, if_neg (by rw [hWK.out]; simp), if_pos (by rw [hSE.out]; exact h20)])
    have h21 : (se == 20) = true := by rw [h20]; rfl
    clear h20
    go_enter Tryd.func8, Tryd.ntmps8
    go_wp2_with fail
    refine HP.out.mono ?_
    rintro e w' ⟨rfl, rfl⟩
    go_wp2_with fail
    refine HQ.out.mono ?_
    rintro e w' ⟨rfl, rfl⟩
    go_wp2
    go_ret
    exact BAD.out 4 hE.out (by decide)
  · have hE : Hid (s.giveErr a b = 0) := Lib.hid (by unfold CNet.giveErr; rw [if_neg (by rw [HIP.out, HIQ.out]; simp), if_neg HPQ.out, Int.toNat_natCast, if_neg (by rw [hWK.out]; simp), if_neg (by rw [hSE.out]; exact h20)])
    have hG : Hid (s.give a b = s.give0 a b) := Lib.hid (by unfold CNet.give; rw [if_pos hE.out]; rfl)
    have h21 : (se == 20) = false := by rw [beq_eq_false_iff_ne]; exact h20
    have HS1 : CAt S (w.setCell ⟨t, 2, none⟩ (.int .i64 (se + 1))) t { s with sent := s.sent + 1 } s.n s.n V tag := by
      have := (show Mem S w t (s.top V) (s.rows s.n s.n V) tag from HH.out).setTop 2 (.int .i64 (se + 1))
      exact this.congr (by unfold CNet.top; rw [hSE.out]; rfl) fun i => by cases i <;> rfl
    have HS2 := HS1.setNode VN.out (p := a) (c := 2) (by rw [hN.out]; exact ha) (by omega) (.int .i64 (ow + 1)) { s with sent := s.sent + 1, owed := put1 s.owed a (s.owed a + 1) } rfl rfl rfl rfl (by show (Value.int .i64 (put1 s.owed a (s.owed a + 1) a)) = _; rw [put1_self, hOW.out]) (fun q d hd hne => by
      unfold CNet.cell
      by_cases e2 : d = 2
      · subst e2
        have hq : q ≠ a := by omega
        show (Value.int .i64 (put1 s.owed a (s.owed a + 1) q)) = .int .i64 (s.owed q)
        rw [put1_ne _ _ hq]
      · have hd' : d = 0 ∨ d = 1 := by omega
        rcases hd' with rfl | rfl <;> rfl)
    have hc : Chg (fun k => ¬ S k) w ((w.setCell ⟨t, 2, none⟩ (.int .i64 (se + 1))).setCell ⟨g, a * 3 + 2, none⟩ (.int .i64 (ow + 1))) := (HH.out.chgTop 2 _).setCell (.inl HSG.out) _
    have HSD := Lib.hid (send_any S _ t g { s with sent := s.sent + 1, owed := put1 s.owed a (s.owed a + 1) } ⟨V, tag, ⟨cN, VN.out⟩, HS2⟩ a b 1 (by show a < s.n; rw [hN.out]; exact ha) (by show b < s.n; rw [hN.out]; exact hbn) (by have := HSA.out.len a b (by rw [hN.out]; exact ha) (by rw [hN.out]; exact hbn); show (s.ways a b).length < _; omega))
    have HC := Lib.hid hc
    clear HS1 HS2 hc h20
    go_enter Tryd.func8, Tryd.ntmps8
    go_wp2_with fail
    refine HP.out.mono ?_
    rintro e w' ⟨rfl, rfl⟩
    go_wp2_with fail
    refine HQ.out.mono ?_
    rintro e w' ⟨rfl, rfl⟩
    go_wp2_with fail
    refine HSD.out.mono ?_
    rintro e w1 ⟨rfl, hin1, hc1⟩
    go_wp2
    go_ret
    exact ⟨by rw [hE.out]; rfl, by rw [hG.out]; exact hin1, HC.out.trans hc1⟩

end Go.Proofs.YtbckjmbhipofaaaDoor
