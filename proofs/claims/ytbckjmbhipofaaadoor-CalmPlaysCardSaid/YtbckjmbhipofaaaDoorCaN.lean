/-
  The net of work and thanks: what is told of a node, and of a way; the bounds that the laws need.
  Conditions: a net as New made it, with fewer than 1000 messages on each way.
-/
import Derived.Test.YtbckjmbhipofaaaDoorCaF
import Derived.Test.YtbckjmbhipofaaaDoorCaMath2
import Derived.Test.YtbckjmbhipofaaaDoorIntss
namespace Go.Proofs.YtbckjmbhipofaaaDoor
open Go Go.RowKit

theorem cnt_len {l : List Int} (h : ∀ m ∈ l, m = 1 ∨ m = 2) : (l.length : Int) = cnt 1 l + cnt 2 l := by
  induction l with
  | nil => rfl
  | cons x l ih =>
    rw [cnt_cons, cnt_cons, List.length_cons]
    have := ih (fun m hm => h m (List.mem_cons_of_mem _ hm))
    rcases h x (List.mem_cons_self) with rfl | rfl
    · simp; omega
    · simp; omega

theorem CBnd.sane {s : CNet} (h : CBnd s) : Sane s := by
  have hi := h.inv
  have hp := h.psiLe
  have hs := hi.sent20
  have hW : ∀ p q, p < s.n → q < s.n → cnt 1 (s.ways p q) ≤ sumW s := fun p q hp hq => sum2_ge (f := fun p q => cnt 1 (s.ways p q)) (fun _ _ _ _ => cnt_nonneg _ _) hp hq
  have hT : ∀ p q, p < s.n → q < s.n → cnt 2 (s.ways p q) ≤ sumT s := fun p q hp hq => sum2_ge (f := fun p q => cnt 2 (s.ways p q)) (fun _ _ _ _ => cnt_nonneg _ _) hp hq
  have hW0 : 0 ≤ sumW s := sum2_nonneg fun _ _ _ _ => cnt_nonneg _ _
  have hT0 : 0 ≤ sumT s := sum2_nonneg fun _ _ _ _ => cnt_nonneg _ _
  have hE0 : 0 ≤ nEng s := sum_nonneg fun _ _ => by unfold eng1; split <;> omega
  unfold psi at hp
  refine ⟨hi.n1, fun p hp => (hi.par p hp).2, fun p q hp' hq => ?_, fun p hp' => ?_, ⟨by have := hi.sent0; omega, by omega⟩⟩
  · have := cnt_len (hi.msg p q)
    have h1 := hW p q hp' hq
    have h2 := hT p q hp' hq
    omega
  · rw [hi.owe p hp']
    have h0 := dues_nonneg s p
    have h1 := sum_le (n := s.n) (f := fun q => cnt 1 (s.ways p q)) (g := fun _ => 40) (fun q hq => by have := hW p q hp' hq; omega)
    have h2 := sum_le (n := s.n) (f := fun q => cnt 2 (s.ways q p)) (g := fun _ => 40) (fun q hq => by have := hT q p hq hp'; omega)
    have h3 := sum_le (n := s.n) (f := fun q => ch s q p) (g := fun _ => 1) (fun q hq => by unfold ch; split <;> omega)
    rw [sum_const] at h1 h2 h3
    have h5 := hi.n5
    unfold dues at h0 ⊢
    omega

theorem CIn.mono {S S' : Nat → Prop} {w : World} {t g : Nat} {s : CNet} (h : CIn S w t g s) (hS : ∀ b, S' b → S b) : CIn S' w t g s := by
  obtain ⟨V, tag, hg, h⟩ := h
  exact ⟨V, tag, hg, ⟨fun b hb => h.hS b (hS b hb), h.ht, h.blk, h.row, h.tg⟩⟩

def CNet.nodeAt (s : CNet) (p : Int) : Int := if s.is p = true then s.parent p.toNat else -1
def CNet.nodeOwed (s : CNet) (p : Int) : Int := if s.is p = true then s.owed p.toNat else 0
def CNet.wayOf (s : CNet) (p q : Int) : List Int := if s.is p = true ∧ s.is q = true then s.ways p.toNat q.toNat else []

set_option maxHeartbeats 2000000 in
set_option maxRecDepth 100000 in
theorem node_any (S : Nat → Prop) (w : World) (t g : Nat) (s : CNet) (h : CIn S w t g s) (hs : 0 < s.n) (p : Int) :
    Calls Tryd.prog 15 #[.pointer (some ⟨t, 0, none⟩), .int .i64 p] w fun e w' => e = .returned (.tuple #[.int .i64 (s.nodeAt p), .int .i64 (s.nodeOwed p)]) ∧ Chg NoF w w' := by
  have HP := Lib.hid (is_any S w t g s h hs p)
  cases hip : s.is p with
  | false =>
    have hE : Hid (s.nodeAt p = -1 ∧ s.nodeOwed p = 0) := Lib.hid ⟨by unfold CNet.nodeAt; rw [if_neg (by rw [hip]; simp)], by unfold CNet.nodeOwed; rw [if_neg (by rw [hip]; simp)]⟩
    rw [hE.out.1, hE.out.2]
    rw [hip] at HP
    clear h hs hip
    go_enter Tryd.func15, Tryd.ntmps15
    go_wp2_with fail
    refine HP.out.mono ?_
    rintro e w' ⟨rfl, rfl⟩
    go_wp2
    go_ret2
    exact ⟨rfl, Chg.refl _ _⟩
  | true =>
    rw [hip] at HP
    have hE : Hid (s.nodeAt p = s.parent p.toNat ∧ s.nodeOwed p = s.owed p.toNat) := Lib.hid ⟨by unfold CNet.nodeAt; rw [if_pos hip], by unfold CNet.nodeOwed; rw [if_pos hip]⟩
    rw [hE.out.1, hE.out.2]
    obtain ⟨a, rfl, ha⟩ := (s.is_iff p).1 hip
    rw [Int.toNat_natCast]
    obtain ⟨V, tag, ⟨cN, vN⟩, h⟩ := h
    obtain ⟨hcell, hfr, htN, hSg, c0⟩ := h.nodeAt vN
    have d1 : w.cell? ⟨g, a * 3 + 1, none⟩ = some (.int .i64 (s.parent a)) := hcell a 1 ha (by omega)
    have d2 : w.cell? ⟨g, a * 3 + 2, none⟩ = some (.int .i64 (s.owed a)) := hcell a 2 ha (by omega)
    obtain ⟨n, hN⟩ : ∃ n, Hid (s.n = n) := ⟨_, Lib.hid rfl⟩
    rw [hN.out] at c0 ha
    have ha1 : (a : Int) < n := by omega
    clear hcell hfr h vN hSg htN hip
    go_enter Tryd.func15, Tryd.ntmps15
    go_wp2_with fail
    refine HP.out.mono ?_
    rintro e w' ⟨rfl, rfl⟩
    go_wp2_with fail
    refine wp_region_plan (Chg NoF _) 18 [(0,true),(1,true),(2,true),(3,true),(4,true),(5,true),(6,true),(7,true),(8,true),(9,true),(10,true),(11,true),(12,true),(13,true),(14,true),(15,true),(16,true),(17,true)] mixed (by kernel_rfl) (Chg.refl _ _).drew ?_
    simp only [planOps, List.map_cons, List.map_nil, List.getElem?_cons_zero, List.getElem?_cons_succ, Option.getD_some]
    generalize hops : List.toArray _ = ops
    iterate 18 (refine wpPlan_quiet (v := ?_) rfl (fun _ _ _ h => h) (by intro w1 hS; have s0 := hS.cell_some c0 (fun h => h); have s1 := hS.cell_some d1 (fun h => h); have s2 := hS.cell_some d2 (fun h => h); clear hS; go_simp; with_reducible rfl) ?_; (simp only [Act.put, List.setIfInBounds_toArray, List.set_cons_zero, List.set_cons_succ]))
    clear hops
    refine wpPlan_nil ?_
    go_wp2
    go_ret2
    exact ⟨rfl, (Chg.refl _ _).drew⟩

set_option maxHeartbeats 2000000 in
set_option maxRecDepth 100000 in
theorem way_any (S : Nat → Prop) (w : World) (t g : Nat) (s : CNet) (h : CIn S w t g s) (hs : Sane s) (p q : Int) :
    Calls Tryd.prog 17 #[.pointer (some ⟨t, 0, none⟩), .int .i64 p, .int .i64 q] w fun e w' => ∃ v, e = .returned v ∧ Rd (NewB w) w' v (s.wayOf p q) ∧ Chg NoF w w' := by
  have HP := Lib.hid (is_any S w t g s h hs.n0 p)
  have HQ := Lib.hid (is_any S w t g s h hs.n0 q)
  cases hip : s.is p with
  | false =>
    have hE : Hid (s.wayOf p q = []) := Lib.hid (by unfold CNet.wayOf; rw [if_neg (by rw [hip]; simp)])
    rw [hE.out]
    rw [hip] at HP
    clear h hs hip
    go_enter Tryd.func17, Tryd.ntmps17
    go_wp2_with fail
    refine HP.out.mono ?_
    rintro e w' ⟨rfl, rfl⟩
    go_wp2
    go_ret
    exact ⟨_, rfl, Rd.nil _ _, Chg.refl _ _⟩
  | true =>
  cases hiq : s.is q with
  | false =>
    have hE : Hid (s.wayOf p q = []) := Lib.hid (by unfold CNet.wayOf; rw [if_neg (by rw [hiq]; simp)])
    rw [hE.out]
    rw [hip] at HP
    rw [hiq] at HQ
    clear h hs hip hiq
    go_enter Tryd.func17, Tryd.ntmps17
    go_wp2_with fail
    refine HP.out.mono ?_
    rintro e w' ⟨rfl, rfl⟩
    go_wp2_with fail
    refine HQ.out.mono ?_
    rintro e w' ⟨rfl, rfl⟩
    go_wp2
    go_ret
    exact ⟨_, rfl, Rd.nil _ _, Chg.refl _ _⟩
  | true =>
    have hE : Hid (s.wayOf p q = s.ways p.toNat q.toNat) := Lib.hid (by unfold CNet.wayOf; rw [if_pos ⟨hip, hiq⟩])
    rw [hE.out]
    rw [hip] at HP
    rw [hiq] at HQ
    obtain ⟨a, rfl, ha⟩ := (s.is_iff p).1 hip
    obtain ⟨b, rfl, hbn⟩ := (s.is_iff q).1 hiq
    rw [Int.toNat_natCast, Int.toNat_natCast]
    obtain ⟨V, tag, ⟨cN, vN⟩, h⟩ := h
    obtain ⟨gW, cW, gR, cR, vW, vR, cWp, cRq, fR, ltW, ltR⟩ := h.way ha hbn
    have c1 := h.top1
    rw [vW] at c1
    obtain ⟨hM, _⟩ := h.msg ha hbn
    have hlen := hs.len a b ha hbn
    obtain ⟨l, HL⟩ : ∃ l, Hid (s.ways a b = l) := ⟨_, Lib.hid rfl⟩
    rw [HL.out] at hM hlen ⊢
    have HCL := Lib.hid (clone_any (fun _ => True) (V (.msg a b)) l w (Rd.ofOwns hM (fun _ _ => trivial)) (by omega))
    obtain ⟨aM, cM, hMv⟩ := owns_val hM
    rw [hMv] at HCL cRq
    obtain ⟨m, hm⟩ : ∃ m, Hid (l.length = m) := ⟨_, Lib.hid rfl⟩
    obtain ⟨n, hN⟩ : ∃ n, Hid (s.n = n) := ⟨_, Lib.hid rfl⟩
    rw [hm.out] at HCL cRq
    rw [hN.out] at c1 cWp ha hbn
    have ha1 : (a : Int) < n := by omega
    have hb1 : (b : Int) < n := by omega
    clear h vN vW vR fR hM hs hip hiq hMv hlen
    go_enter Tryd.func17, Tryd.ntmps17
    go_wp2_with fail
    refine HP.out.mono ?_
    rintro e w' ⟨rfl, rfl⟩
    go_wp2_with fail
    refine HQ.out.mono ?_
    rintro e w' ⟨rfl, rfl⟩
    go_wp2_with fail
    refine HCL.out.mono ?_
    rintro e w1 ⟨v', rfl, hown, hcc⟩
    go_wp2
    go_ret
    exact ⟨_, rfl, Rd.ofOwns hown (fun b hb => Nat.not_lt.2 (hown.lt b hb).1), hcc⟩

end Go.Proofs.YtbckjmbhipofaaaDoor
