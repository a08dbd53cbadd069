/-
  The net that tells all the same in the same order: what is told of it, and hearing.
  Conditions: a net as New made it, behind any deeds.
-/
import Derived.Test.YtbindapfjghnaaaDoorSkA
import Derived.Test.YtbindapfjghnaaaDoorFind
import Derived.Test.YtbindapfjghnaaaDoorClone
namespace Go.Proofs.YtbindapfjghnaaaDoor
open Go Go.RowKit

def DonePost (S : Nat → Prop) (w : World) (t g : Nat) (s' : SNet) (e : Ending) (w' : World) : Prop :=
  e = .returned (.tuple #[]) ∧ SIn S w' t g s' ∧ Chg (fun k => ¬ S k) w w'
def TwoPost (S : Nat → Prop) (w : World) (t g : Nat) (x n : Int) (s' : SNet) (e : Ending) (w' : World) : Prop :=
  e = .returned (.tuple #[.int .i64 x, errV n]) ∧ SIn S w' t g s' ∧ Chg (fun k => ¬ S k) w w'

set_option maxHeartbeats 1000000 in
theorem is_any (S : Nat → Prop) (w : World) (t g : Nat) (s : SNet) (h : SIn S w t g s) (hs : SPre s) (p k : Int) :
    Calls Tryd.prog 23 #[.pointer (some ⟨t, 0, none⟩), .int .i64 p, .int .i64 k] w fun e w' => e = .returned (.bool (s.is p k)) ∧ w = w' := by
  obtain ⟨V, tag, ⟨cN, vN⟩, h⟩ := h
  obtain ⟨bC, cC, _, _, _, _, _, c0⟩ := h.clkAt hs.n1
  obtain ⟨_, c1, _, aA, cA, vA⟩ := h.atsAt
  rw [vA] at c1
  have HR : Hid (s.is p k = (inB p 0 ((s.n : Int) - 1) && inB k 0 ((s.m : Int) - 1))) := Lib.hid rfl
  rw [HR.out]
  have hn := hs.n4
  have hm := hs.m20
  obtain ⟨n, hN⟩ : ∃ n, Hid (s.n = n) := ⟨_, Lib.hid rfl⟩
  obtain ⟨m, hM⟩ : ∃ m, Hid (s.m = m) := ⟨_, Lib.hid rfl⟩
  rw [hN.out] at c0 hn ⊢
  rw [hM.out] at c1 hm ⊢
  clear h vN HR vA hs
  cases hp : inB p 0 ((n : Int) - 1) with
  | false =>
    have HP := Lib.hid hp
    clear hp
    go_enter Tryd.func23, Tryd.ntmps23
    go_wp2_with fail
    refine (within_any _ _ _ _).mono ?_
    rintro e w' ⟨rfl, rfl⟩
    rw [HP.out]
    go_wp2
    go_ret
    exact ⟨rfl, rfl⟩
  | true =>
    have HP := Lib.hid hp
    clear hp
    go_enter Tryd.func23, Tryd.ntmps23
    go_wp2_with fail
    refine (within_any _ _ _ _).mono ?_
    rintro e w' ⟨rfl, rfl⟩
    rw [HP.out]
    go_wp2_with fail
    refine (within_any _ _ _ _).mono ?_
    rintro e w' ⟨rfl, rfl⟩
    go_wp2
    go_ret
    exact ⟨rfl, rfl⟩

def GotPost (w : World) (l : List Int) (e : Ending) (w' : World) : Prop := ∃ v, e = .returned v ∧ w'.ownsRow w.heap.size 3 1 v l.length (l.map (.int .i64)) ∧ Chg NoF w w'

theorem SNet.gotOf_at (s : SNet) {p : Nat} (hp : p < s.n) : s.gotOf p = s.got p := by
  unfold SNet.gotOf; rw [if_pos (by omega), Int.toNat_natCast]

set_option maxHeartbeats 2000000 in
theorem got_any (S : Nat → Prop) (w : World) (t g : Nat) (s : SNet) (h : SIn S w t g s) (hs : SPre s) (p : Int) :
    Calls Tryd.prog 14 #[.pointer (some ⟨t, 0, none⟩), .int .i64 p] w (GotPost w (s.gotOf p)) := by
  obtain ⟨V, tag, ⟨cN, vN⟩, h⟩ := h
  have c2 : w.cell? ⟨t, 2, none⟩ = some (V .gots) := h.blk.cell 2
  rw [vN] at c2
  have hn := hs.n4
  cases hin : inB p 0 ((s.n : Int) - 1) with
  | false =>
    have HO : Hid (s.gotOf p = []) := Lib.hid (by
      unfold SNet.gotOf; rw [if_neg]
      intro hh; rw [Bool.eq_false_iff] at hin; apply hin; simp [inB]; omega)
    rw [HO.out]
    have HIN := Lib.hid hin
    obtain ⟨n, hN⟩ : ∃ n, Hid (s.n = n) := ⟨_, Lib.hid rfl⟩
    rw [hN.out] at c2 hn HIN
    clear h vN hin hs
    go_enter Tryd.func14, Tryd.ntmps14
    go_wp2_with fail
    refine (within_any _ _ _ _).mono ?_
    rintro e w' ⟨rfl, rfl⟩
    rw [HIN.out]
    go_wp2
    go_ret
    exact ⟨_, rfl, World.ownsRow_nil _ _ _ _, Chg.refl _ _⟩
  | true =>
    have hp : 0 ≤ p ∧ p ≤ (s.n : Int) - 1 := by simpa [inB] using hin
    obtain ⟨a, rfl⟩ := Int.eq_ofNat_of_zero_le hp.1
    have ha : a < s.n := by omega
    rw [s.gotOf_at ha]
    have hgl := hs.got_le ha
    have hm := hs.m20
    obtain ⟨-, dg, -, -, -, -, hrow, ⟨a1, cc, hv⟩, -⟩ := h.gotAt vN ha
    have HCL := Lib.hid (clone_any (fun _ => True) _ (s.got a) w (Rd.ofOwns hrow (fun _ _ => trivial)) (by omega))
    rw [hv] at dg HCL
    obtain ⟨l, HL⟩ : ∃ l, Hid (s.got a = l) := ⟨_, Lib.hid rfl⟩
    rw [HL.out] at dg HCL ⊢
    have HIN := Lib.hid hin
    obtain ⟨n, hN⟩ : ∃ n, Hid (s.n = n) := ⟨_, Lib.hid rfl⟩
    rw [hN.out] at c2 hn HIN ha
    have ha1 : (a : Int) < n := by omega
    clear h vN hin hp hs hrow hv hgl hm
    go_enter Tryd.func14, Tryd.ntmps14
    go_wp2_with fail
    refine (within_any _ _ _ _).mono ?_
    rintro e w' ⟨rfl, rfl⟩
    rw [HIN.out]
    go_wp2_with fail
    refine HCL.out.mono ?_
    rintro e w3 ⟨v', rfl, hown1, hcc⟩
    obtain ⟨va, vc, rfl⟩ := owns_val hown1
    have HOWN := Lib.hid hown1
    have HCC := Lib.hid hcc
    clear hown1 hcc c2 dg
    go_wp2
    go_ret
    exact ⟨_, rfl, HOWN.out, HCC.out⟩

set_option maxHeartbeats 4000000 in
set_option maxRecDepth 100000 in
theorem time_any (S : Nat → Prop) (w : World) (t g : Nat) (s : SNet) (h : SIn S w t g s) (hs : SPre s) (p k : Int) :
    Calls Tryd.prog 15 #[.pointer (some ⟨t, 0, none⟩), .int .i64 p, .int .i64 k] w fun e w' => e = .returned (.tuple #[.int .i64 (s.timeOf p k), .bool (s.fixedAt p k)]) ∧ Chg NoF w w' := by
  have HP := Lib.hid (is_any S w t g s h hs p k)
  cases hip : s.is p k with
  | false =>
    have hE : Hid (s.timeOf p k = 0 ∧ s.fixedAt p k = false) := Lib.hid (by unfold SNet.timeOf SNet.fixedAt; rw [if_neg (by rw [hip]; simp), if_neg (by rw [hip]; simp)]; exact ⟨rfl, rfl⟩)
    rw [hE.out.1, hE.out.2]
    rw [hip] at HP
    clear h hs hip hE
    go_enter Tryd.func15, Tryd.ntmps15
    go_wp2_with fail
    refine HP.out.mono ?_
    rintro e w' ⟨rfl, rfl⟩
    go_wp2
    go_ret2
    exact ⟨rfl, Chg.refl _ _⟩
  | true =>
    rw [hip] at HP
    obtain ⟨a, b, rfl, rfl, ha, hb⟩ := (s.is_iff p k).1 hip
    have hE : Hid (s.timeOf a b = s.tm b a ∧ s.fixedAt a b = s.fix b a) := Lib.hid (by unfold SNet.timeOf SNet.fixedAt; rw [if_pos hip, if_pos hip, Int.toNat_natCast, Int.toNat_natCast]; exact ⟨rfl, rfl⟩)
    rw [hE.out.1, hE.out.2]
    obtain ⟨V, tag, ⟨cN, vN⟩, h⟩ := h
    obtain ⟨gA, cA, bA, cB, -, -, c1, d1, hcell, -⟩ := h.atAt hb hs.n1
    obtain ⟨e0, -, e2⟩ := hcell a ha
    obtain ⟨x, HX⟩ : ∃ x, Hid (s.tm b a = x) := ⟨_, Lib.hid rfl⟩
    obtain ⟨y, HY⟩ : ∃ y, Hid (s.fix b a = y) := ⟨_, Lib.hid rfl⟩
    rw [HX.out] at e0 ⊢
    rw [HY.out] at e2 ⊢
    have hn := hs.n4
    have hm := hs.m20
    obtain ⟨n, hN⟩ : ∃ n, Hid (s.n = n) := ⟨_, Lib.hid rfl⟩
    obtain ⟨m, hM⟩ : ∃ m, Hid (s.m = m) := ⟨_, Lib.hid rfl⟩
    rw [hN.out] at d1 hn ha
    rw [hM.out] at c1 hm hb
    have ha1 : (a : Int) < n := by omega
    have hb1 : (b : Int) < m := by omega
    clear h vN hcell hs hip hE
    go_enter Tryd.func15, Tryd.ntmps15
    go_wp2_with fail
    refine HP.out.mono ?_
    rintro e w' ⟨rfl, rfl⟩
    go_wp2_with fail
    refine wp_region_plan (Chg NoF w) 24 [(0,true),(1,true),(2,true),(3,true),(4,true),(5,true),(6,true),(7,true),(8,true),(9,true),(10,true),(11,true),(12,true),(13,true),(14,true),(15,true),(16,true),(17,true),(18,true),(19,true),(20,true),(21,true),(22,true),(23,true)] mixed (by kernel_rfl) (Chg.refl _ _).drew ?_
    simp only [planOps, List.map_cons, List.map_nil, List.getElem?_cons_zero, List.getElem?_cons_succ, Option.getD_some]
    generalize hops : List.toArray _ = ops
    iterate 24 (refine wpPlan_quiet (v := ?_) rfl (fun _ _ _ h => h) (by intro w1 hS; have s0 := hS.cell_some c1 (fun h => h); have s1 := hS.cell_some d1 (fun h => h); have s2 := hS.cell_some e0 (fun h => h); have s3 := hS.cell_some e2 (fun h => h); clear hS; go_simp; with_reducible rfl) ?_; (simp only [Act.put, List.setIfInBounds_toArray, List.set_cons_zero, List.set_cons_succ]))
    clear hops
    refine wpPlan_nil ?_
    clear c1 d1 e0 e2
    go_wp2
    go_ret2
    exact ⟨rfl, (Chg.refl _ _).drew⟩

end Go.Proofs.YtbindapfjghnaaaDoor
