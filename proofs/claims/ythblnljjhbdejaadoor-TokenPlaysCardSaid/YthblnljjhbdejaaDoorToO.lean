/-
  The lock whose token goes from one to the next: what is told of a way.
  Conditions: a net as New made it, with fewer than 1000 messages on each way.
-/
import Derived.Test.YthblnljjhbdejaaDoorToG
namespace Go.Proofs.YthblnljjhbdejaaDoor
open Go Go.RowKit

def TNet.wayOf (s : TNet) (p q : Int) : List Int := if s.is p = true ∧ s.is q = true then s.ways p.toNat q.toNat else []

set_option maxHeartbeats 2000000 in
set_option maxRecDepth 100000 in
theorem way_any (S : Nat → Prop) (w : World) (t g : Nat) (s : TNet) (h : TIn S w t g s) (hs : Sane s) (p q : Int) :
    Calls Tryd.prog 18 #[.pointer (some ⟨t, 0, none⟩), .int .i64 p, .int .i64 q] w fun e w' => ∃ v, e = .returned v ∧ Rd (NewB w) w' v (s.wayOf p q) ∧ Chg NoF w w' := by
  have HP := Lib.hid (is_any S w t g s h hs.n0 p)
  have HQ := Lib.hid (is_any S w t g s h hs.n0 q)
  cases hip : s.is p with
  | false =>
    have hE : Hid (s.wayOf p q = []) := Lib.hid (by unfold TNet.wayOf; rw [if_neg (by rw [hip]; simp)])
    rw [hE.out]
    rw [hip] at HP
    clear h hs hip
    go_enter Tryd.func18, Tryd.ntmps18
    go_wp2_with fail
    refine HP.out.mono ?_
    rintro e w' ⟨rfl, rfl⟩
    go_wp2
    go_ret
    exact ⟨_, rfl, Rd.nil _ _, Chg.refl _ _⟩
  | true =>
  cases hiq : s.is q with
  | false =>
    have hE : Hid (s.wayOf p q = []) := Lib.hid (by unfold TNet.wayOf; rw [if_neg (by rw [hiq]; simp)])
    rw [hE.out]
    rw [hip] at HP
    rw [hiq] at HQ
    clear h hs hip hiq
    go_enter Tryd.func18, Tryd.ntmps18
    go_wp2_with fail
    refine HP.out.mono ?_
    rintro e w' ⟨rfl, rfl⟩
    go_wp2_with fail
    refine HQ.out.mono ?_
    rintro e w' ⟨rfl, rfl⟩
    go_wp2
    go_ret
    exact ⟨_, rfl, Rd.nil _ _, Chg.refl _ _⟩
  | true =>
    have hE : Hid (s.wayOf p q = s.ways p.toNat q.toNat) := Lib.hid (by unfold TNet.wayOf; rw [if_pos ⟨hip, hiq⟩])
    rw [hE.out]
    rw [hip] at HP
    rw [hiq] at HQ
    obtain ⟨a, rfl, ha⟩ := (s.is_iff p).1 hip
    obtain ⟨b, rfl, hbn⟩ := (s.is_iff q).1 hiq
    rw [Int.toNat_natCast, Int.toNat_natCast]
    obtain ⟨V, tag, ⟨cN, vN⟩, h⟩ := h
    obtain ⟨gW, cW, gR, cR, vW, vR, cWp, cRq, fR, ltW, ltR, c1⟩ := h.way ha hbn
    obtain ⟨hM, _⟩ := h.msg ha hbn
    have hlen := hs.len a b ha hbn
    obtain ⟨l, HL⟩ : ∃ l, Hid (s.ways a b = l) := ⟨_, Lib.hid rfl⟩
    rw [HL.out] at hM hlen ⊢
    have HCL := Lib.hid (clone_any (fun _ => True) (V (.msg a b)) l w (Rd.ofOwns hM (fun _ _ => trivial)) (by omega))
    obtain ⟨aM, cM, hMv⟩ := owns_val hM
    rw [hMv] at HCL cRq
    obtain ⟨m, hm⟩ : ∃ m, Hid (l.length = m) := ⟨_, Lib.hid rfl⟩
    obtain ⟨n, hN⟩ : ∃ n, Hid (s.n = n) := ⟨_, Lib.hid rfl⟩
    rw [hm.out] at HCL cRq
    rw [hN.out] at c1 cWp ha hbn
    have ha1 : (a : Int) < n := by omega
    have hb1 : (b : Int) < n := by omega
    clear h vN vW vR fR hM hs hip hiq hMv hlen
    go_enter Tryd.func18, Tryd.ntmps18
    go_wp2_with fail
    refine HP.out.mono ?_
    rintro e w' ⟨rfl, rfl⟩
    go_wp2_with fail
    refine HQ.out.mono ?_
    rintro e w' ⟨rfl, rfl⟩
    go_wp2_with fail
    refine HCL.out.mono ?_
    rintro e w1 ⟨v', rfl, hown, hcc⟩
    go_wp2
    go_ret
    exact ⟨_, rfl, Rd.ofOwns hown (fun b hb => Nat.not_lt.2 (hown.lt b hb).1), hcc⟩

end Go.Proofs.YthblnljjhbdejaaDoor
