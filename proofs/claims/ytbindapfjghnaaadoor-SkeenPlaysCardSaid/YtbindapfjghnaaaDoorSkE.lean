/-
  The net that tells all the same in the same order: taking all that are fixed, and ahead of all others that are there.
  Conditions: a net as New made it, behind any deeds.
-/
import Derived.Test.YtbindapfjghnaaaDoorSkD
namespace Go.Proofs.YtbindapfjghnaaaDoor
open Go Go.RowKit

/-- A loud operation with a guard that says no. -/
theorem wpPlan_loudN {P : Program} {ops : Array Oper} {Q : Exit → Act → World → Prop} {S : World → Prop} {L : Nat} {i : Nat} {pl : List (Nat × Oper × Bool)} {a : Act} {w : World} {oi : Oper} (hg : Region.wanted oi (yielded ops a.tmps) = false)
    (hS : S w) (h : wpPlanL P ops Q S L pl (a.put oi.dst undef) w) : wpPlanL P ops Q S L ((i, oi, false) :: pl) a w := by
  simp only [wpPlanL]
  rw [if_neg (by simp [hg])]
  exact ⟨fun _ => hS, h⟩

set_option maxHeartbeats 1000000 in
theorem less_any (x y : Int) (w : World) : Calls Tryd.prog 33 #[.int .i64 x, .int .i64 y] w fun e w' => e = .returned (.bool (decide (x < y))) ∧ w = w' := by
  have hz : (x == x) = true := by simp
  have nan : ∀ z w, Calls Tryd.prog 39 #[.int .i64 z] w fun e w' => e = .returned (.bool false) ∧ w = w' := fun z w => by
    have hz : (z != z) = false := by simp
    go_enter Tryd.func39, Tryd.ntmps39
    go_wp2
    go_ret
    exact ⟨rfl, rfl⟩
  go_enter Tryd.func33, Tryd.ntmps33
  go_wp2_with fail
  refine (nan x _).mono ?_
  rintro e w' ⟨rfl, rfl⟩
  go_wp2
  go_ret
  exact ⟨rfl, rfl⟩

/-- How much is to come, read off the world. -/
def left (w : World) (g p m : Nat) : Nat := match w.cell? ⟨g, p, none⟩ with | some (.slice _ n _) => m + 1 - n | _ => 0

theorem take_some {s : SNet} {p f : Nat} (h : ¬ s.stops p) (hf : s.m < f + (s.got p).length) (hl : (s.got p).length < s.m) : takeN p f s = takeN p (f - 1) (s.take1 p) := by
  obtain ⟨f, rfl⟩ : ∃ f', f = f' + 1 := ⟨f - 1, by omega⟩
  rw [takeN, if_neg h]; rfl
theorem take_none {s : SNet} {p f : Nat} (h : s.stops p) : takeN p f s = s := by
  cases f with
  | zero => rfl
  | succ f => rw [takeN, if_pos h]

set_option maxHeartbeats 8000000 in
set_option maxRecDepth 100000 in
theorem take_any (S : Nat → Prop) (w : World) (t g : Nat) (s : SNet) (h : SIn S w t g s) (hs : SPre s) (p : Nat) (hp : p < s.n) :
    Calls Tryd.prog 26 #[.pointer (some ⟨t, 0, none⟩), .int .i64 p] w (DonePost S w t g (s.takeAll p)) := by
  obtain ⟨n, hN⟩ : ∃ n, Hid (s.n = n) := ⟨_, Lib.hid rfl⟩
  obtain ⟨m, hM⟩ : ∃ m, Hid (s.m = m) := ⟨_, Lib.hid rfl⟩
  have hn := hs.n4
  have hm := hs.m20
  rw [hN.out] at hn hp
  rw [hM.out] at hm
  have HREL : Hid (SIn S w t g s ∧ SPre s ∧ s.n = n ∧ s.m = m ∧ s.m < (m + 1) + (s.got p).length ∧ takeN p (m + 1) s = s.takeAll p ∧ Chg (fun k => ¬ S k) w w) := Lib.hid ⟨h, hs, hN.out, hM.out, by rw [hM.out]; omega, by unfold SNet.takeAll; rw [hM.out], Chg.refl _ _⟩
  have hp1 : (p : Int) < n := by omega
  clear h hs
  go_enter Tryd.func26, Tryd.ntmps26
  go_wp2_with fail
  go_loopw [4] (fun _ wr => ∃ f s', Hid (SIn S wr t g s' ∧ SPre s' ∧ s'.n = n ∧ s'.m = m ∧ s'.m < f + (s'.got p).length ∧ takeN p f s' = s.takeAll p ∧ Chg (fun k => ¬ S k) w wr)) (fun _ wr => left wr g p m)
  case atStart => exact ⟨_, s, HREL⟩
  case round =>
    clear HREL
    obtain ⟨f, s1, HR⟩ := hrel
    obtain ⟨hin0, hs0, hn0, hm0, -⟩ := HR.out
    obtain ⟨V, tag, ⟨cN, vN⟩, h⟩ := hin0
    obtain ⟨-, c1, -, aA, cA, vA⟩ := h.atsAt
    rw [vA, hm0] at c1
    have HLF : Hid (left wr g p m = m + 1 - (s1.got p).length) := Lib.hid (by
      obtain ⟨-, dg, -, -, -, -, -, ⟨a1, cc, hv⟩, -⟩ := h.gotAt vN (show p < s1.n by rw [hn0]; exact hp)
      unfold left; rw [dg, hv])
    have HC0 : Hid (SIn S wr t g s1 ∧ Chg (fun k => ¬ S k) w wr) := Lib.hid ⟨HR.out.1, HR.out.2.2.2.2.2.2⟩
    have HS1 : Hid (SPre s1 ∧ s1.n = n ∧ s1.m = m) := Lib.hid ⟨hs0, hn0, hm0⟩
    clear h vN vA hs0 hn0 hm0
    go_wp2_with fail
    go_loopw [12, 4] (fun i b wq => ∃ k : Nat, k ≤ m ∧ i = .int .i64 k ∧ b = .int .i64 (bestL s1 p k) ∧ Hid (SIn S wq t g s1 ∧ Chg (fun k => ¬ S k) w wq)) (fun i _ _ => m - (intOf i).toNat)
    case atStart => exact ⟨0, Nat.zero_le _, rfl, rfl, HC0⟩
    case round =>
      clear HC0 c1
      obtain ⟨k, hkm, rfl, rfl, HK⟩ := hrel
      obtain ⟨hs1, hn1, hm1⟩ := HS1.out
      obtain ⟨V, tag, ⟨cN, vN⟩, h⟩ := HK.out.1
      have hpn : p < s1.n := by rw [hn1]; exact hp
      by_cases hk : k < m
      · have hk1 : (k : Int) < m := by omega
        have HKM : Hid (k + 1 ≤ m) := Lib.hid hk
        have hkm1 : k < s1.m := by rw [hm1]; exact hk
        obtain ⟨gA, cA, bA, cB, -, -, c1, d1, hcell, -⟩ := h.atAt hkm1 hs1.n1
        obtain ⟨c2, dg, -, -, -, -, hrow, ⟨a1, cc, hv⟩, -⟩ := h.gotAt vN hpn
        obtain ⟨e0, e1, e2⟩ := hcell p hpn
        have hgl := hs1.got_le hpn
        rw [hv] at dg hrow
        obtain ⟨tk, HTK⟩ : ∃ x, Hid (s1.tm k p = x) := ⟨_, Lib.hid rfl⟩
        obtain ⟨hk', HHK⟩ : ∃ x, Hid (s1.here k p = x) := ⟨_, Lib.hid rfl⟩
        obtain ⟨fk, HFK⟩ : ∃ x, Hid (s1.fix k p = x) := ⟨_, Lib.hid rfl⟩
        rw [HTK.out] at e0
        rw [HHK.out] at e1
        rw [HFK.out] at e2
        rw [hm1] at c1 hgl
        rw [hn1] at d1 c2
        have hcA : Chg NoF wr (wr.alloc (Obj.cells #[.int .i64 tk, .bool hk', .bool fk] 58)) := (Chg.refl NoF wr).alloc _
        have HK2 : Hid (SIn S (wr.alloc (Obj.cells #[.int .i64 tk, .bool hk', .bool fk] 58)) t g s1 ∧ Chg (fun k => ¬ S k) w (wr.alloc (Obj.cells #[.int .i64 tk, .bool hk', .bool fk] 58))) := Lib.hid ⟨HK.out.1.keep hcA, HK.out.2.trans hcA.ofNo⟩
        cases hk' with
        | false =>
          have HB : Hid (bestL s1 p (k + 1) = bestL s1 p k) := Lib.hid (by
            rw [bestL, if_neg]; intro hh; have := ((s1.pends_iff p k).1 hh.1).1; rw [HHK.out] at this; cases this)
          clear h vN hcell hv hs1 hn1 hm1 hrow HK hcA
          go_wp2
          go_roundw
          case rel => exact ⟨k + 1, HKM.out, by go_num, by rw [HB.out], HK2⟩
          case measure => have := HKM.out; simp [intOf]; omega
        | true =>
          have c2a := hcA.cell_some c2 (fun h => h)
          have dga := hcA.cell_some dg (fun h => h)
          have HCO := Lib.hid (contains_any (fun _ => True) _ (s1.got p) (k : Int) _ ((Rd.ofOwns hrow (fun _ _ => trivial)).keep hcA (fun _ _ h => h)) (by omega))
          obtain ⟨gl, HGL⟩ : ∃ x, Hid ((s1.got p).length = x) := ⟨_, Lib.hid rfl⟩
          rw [HGL.out] at dg dga HCO
          have e9 : (wr.alloc (Obj.cells #[.int .i64 tk, .bool true, .bool fk] 58)).cell? ⟨wr.heap.size, 0, none⟩ = some (.int .i64 tk) := (Blk.alloc wr [.int .i64 tk, .bool true, .bool fk] _).cell 0
          clear h vN hcell hv hrow HK hcA
          cases hct : (s1.got p).contains (k : Int) with
          | true =>
            have HB : Hid (bestL s1 p (k + 1) = bestL s1 p k) := Lib.hid (by
              rw [bestL, if_neg]; intro hh; have := ((s1.pends_iff p k).1 hh.1).2; exact this (List.contains_iff_mem.1 hct))
            rw [hct] at HCO
            clear hct hs1 hn1 hm1 e9
            go_wp2_with fail
            refine HCO.out.mono ?_
            rintro e w' ⟨rfl, rfl⟩
            clear c2a dga HCO
            go_wp2
            go_roundw
            case rel => exact ⟨k + 1, HKM.out, by go_num, by rw [HB.out], HK2⟩
            case measure => have := HKM.out; simp [intOf]; omega
          | false =>
            have HPE : Hid (s1.pends p k = true) := Lib.hid ((s1.pends_iff p k).2 ⟨HHK.out, fun hh => by rw [List.contains_iff_mem.2 hh] at hct; cases hct⟩)
            rw [hct] at HCO
            clear hct
            rcases best_spec s1 p k with ⟨hb, -⟩ | ⟨b, hb, hbk, -⟩
            · have HB : Hid (bestL s1 p (k + 1) = k) := Lib.hid (by
                rw [bestL, if_pos ⟨HPE.out, .inl (by omega)⟩])
              rw [hb]
              clear hs1 hn1 hm1 hb
              go_wp2_with fail
              refine HCO.out.mono ?_
              rintro e w' ⟨rfl, rfl⟩
              clear HCO c1 c2 d1 dg e0 e1 e2 c2a dga
              generalize World.alloc _ _ = wa at *
              go_wp2_with fail
              refine wp_region_plan (Chg NoF wa) 18 [(0,true),(1,true),(2,true),(3,true),(4,true),(5,true),(6,true),(7,true),(8,true),(9,true),(10,true),(11,true),(12,true),(13,true),(14,true),(15,true),(16,false),(17,true)] mixed (by kernel_rfl) (Chg.refl _ _).drew ?_
              simp only [planOps, List.map_cons, List.map_nil, List.getElem?_cons_zero, List.getElem?_cons_succ, Option.getD_some]
              generalize hops : List.toArray _ = ops
              iterate 3 (refine wpPlan_quiet (v := ?_) rfl (fun _ _ _ h => h) (by intro w1 hS; clear hS; go_simp; with_reducible rfl) ?_; (simp only [Act.put, List.setIfInBounds_toArray, List.set_cons_zero, List.set_cons_succ]))
              iterate 13 (refine wpPlan_skip (by rw [← hops]; rfl) (fun _ _ _ h => h) ?_; (simp only [Act.put, List.setIfInBounds_toArray, List.set_cons_zero, List.set_cons_succ]))
              refine wpPlan_loudN (by rw [← hops]; rfl) (Chg.refl _ _).drew ?_
              (try simp only [Act.put, List.setIfInBounds_toArray, List.set_cons_zero, List.set_cons_succ])
              (refine wpPlan_quiet (v := ?_) rfl (fun _ _ _ h => h) (by intro w1 hS; clear hS; go_simp; with_reducible rfl) ?_; (simp only [Act.put, List.setIfInBounds_toArray, List.set_cons_zero, List.set_cons_succ]))
              clear hops
              refine wpPlan_nil ?_
              have HK3 : Hid (SIn S wa.drew t g s1 ∧ Chg (fun k => ¬ S k) w wa.drew) := Lib.hid ⟨HK2.out.1.keep ((Chg.refl NoF wa).drew), HK2.out.2.drew⟩
              clear e9
              go_wp2
              go_roundw
              case rel => exact ⟨k + 1, HKM.out, by go_num, by rw [HB.out], HK3⟩
              case measure => have := HKM.out; simp [intOf]; omega
            · obtain ⟨V, tag, ⟨cN, vN⟩, h⟩ := HK2.out.1
              have hbm1 : b < s1.m := by omega
              obtain ⟨gB, cB2, bB, cB3, -, -, c1b, d1b, hcell, -⟩ := h.atAt hbm1 hs1.n1
              obtain ⟨e0b, -, -⟩ := hcell p hpn
              obtain ⟨tb, HTB⟩ : ∃ x, Hid (s1.tm b p = x) := ⟨_, Lib.hid rfl⟩
              rw [HTB.out] at e0b
              rw [hm1] at c1b
              rw [hn1] at d1b
              have HB : Hid (bestL s1 p (k + 1) = if tk < tb then (k : Int) else b) := Lib.hid (by
                rw [bestL, hb, Int.toNat_natCast, HTB.out, HTK.out]
                by_cases e : tk < tb
                · rw [if_pos ⟨HPE.out, .inr e⟩, if_pos e]
                · rw [if_neg (fun hh => by rcases hh.2 with h1 | h1; · omega
                                           · exact e h1), if_neg e])
              rw [hb]
              have hb0 : ¬ (b : Int) < 0 := by omega
              have hbm : (b : Int) < m := by omega
              clear hs1 hn1 hm1 hb h vN hcell
              go_wp2_with fail
              refine HCO.out.mono ?_
              rintro e w' ⟨rfl, rfl⟩
              clear HCO c1 c2 d1 dg e0 e1 e2 c2a dga
              generalize World.alloc _ _ = wa at *
              go_wp2_with fail
              refine wp_region_plan (Chg NoF wa) 18 [(0,true),(1,true),(2,true),(3,true),(4,true),(5,true),(6,true),(7,true),(8,true),(9,true),(10,true),(11,true),(12,true),(13,true),(14,true),(15,true),(16,false),(17,true)] mixed (by kernel_rfl) (Chg.refl _ _).drew ?_
              simp only [planOps, List.map_cons, List.map_nil, List.getElem?_cons_zero, List.getElem?_cons_succ, Option.getD_some]
              generalize hops : List.toArray _ = ops
              iterate 3 (refine wpPlan_quiet (v := ?_) rfl (fun _ _ _ h => h) (by intro w1 hS; clear hS; go_simp; with_reducible rfl) ?_; (simp only [Act.put, List.setIfInBounds_toArray, List.set_cons_zero, List.set_cons_succ]))
              iterate 13 (refine wpPlan_quietG (v := ?_) (by rw [← hops]; rfl) (fun _ _ _ h => h) (by intro w1 hS; have s0 := hS.cell_some e9 (fun h => h); have s1 := hS.cell_some c1b (fun h => h); have s2 := hS.cell_some d1b (fun h => h); have s3 := hS.cell_some e0b (fun h => h); clear hS; go_simp; with_reducible rfl) ?_; (simp only [Act.put, List.setIfInBounds_toArray, List.set_cons_zero, List.set_cons_succ]))
              refine wpPlan_loudG (by rw [← hops]; rfl) (fun K hK => ?_)
              go_simp
              refine (less_any tk tb _).mono ?_
              rintro e w6 ⟨rfl, rfl⟩
              refine hK _ _ (fun _ => (Chg.refl NoF wa).drew) ?_
              clear hK K
              (try simp only [Act.put, List.setIfInBounds_toArray, List.set_cons_zero, List.set_cons_succ])
              (refine wpPlan_quiet (v := ?_) rfl (fun _ _ _ h => h) (by intro w1 hS; clear hS; go_simp; with_reducible rfl) ?_; (simp only [Act.put, List.setIfInBounds_toArray, List.set_cons_zero, List.set_cons_succ]))
              clear hops
              refine wpPlan_nil ?_
              have HK3 : Hid (SIn S wa.drew t g s1 ∧ Chg (fun k => ¬ S k) w wa.drew) := Lib.hid ⟨HK2.out.1.keep ((Chg.refl NoF wa).drew), HK2.out.2.drew⟩
              clear e9 c1b d1b e0b
              by_cases hlt : tk < tb
              · have HB2 : Hid (bestL s1 p (k + 1) = k) := Lib.hid (by rw [HB.out, if_pos hlt])
                go_wp2
                go_roundw
                case rel => exact ⟨k + 1, HKM.out, by go_num, by rw [HB2.out], HK3⟩
                case measure => have := HKM.out; simp [intOf]; omega
              · have HB2 : Hid (bestL s1 p (k + 1) = b) := Lib.hid (by rw [HB.out, if_neg hlt])
                go_wp2
                go_roundw
                case rel => exact ⟨k + 1, HKM.out, by go_num, by rw [HB2.out], HK3⟩
                case measure => have := HKM.out; simp [intOf]; omega
      · obtain rfl : k = m := by omega
        rcases best_spec s1 p k with ⟨hb, -⟩ | ⟨b, hb, hbk, -⟩
        · have HST : Hid (s.takeAll p = s1) := Lib.hid (by
            rw [← HR.out.2.2.2.2.2.1]
            exact take_none (.inl (by rw [hm1, hb]; omega)))
          rw [hb]
          clear h vN hs1 hn1 hm1 hb
          go_wp2
          go_end0
          exact ⟨rfl, by rw [HST.out]; exact HK.out.1, HK.out.2⟩
        · have hbm1 : b < s1.m := by omega
          obtain ⟨gB, cB2, bB, cB3, -, -, c1b, d1b, hcell, -⟩ := h.atAt hbm1 hs1.n1
          obtain ⟨-, -, e2b⟩ := hcell p hpn
          obtain ⟨fb, HFB⟩ : ∃ x, Hid (s1.fix b p = x) := ⟨_, Lib.hid rfl⟩
          rw [HFB.out] at e2b
          rw [hm1] at c1b
          rw [hn1] at d1b
          have HBB : Hid (bestL s1 p s1.m = b) := Lib.hid (by rw [hm1]; exact hb)
          have hb0 : ¬ (b : Int) < 0 := by omega
          have hbm : (b : Int) < k := by omega
          rw [hb]
          cases fb with
          | false =>
            have HST : Hid (s.takeAll p = s1) := Lib.hid (by
              rw [← HR.out.2.2.2.2.2.1]
              exact take_none (.inr (by rw [HBB.out, Int.toNat_natCast]; exact HFB.out)))
            clear h vN hs1 hn1 hm1 hb hcell
            go_wp2
            go_end0
            exact ⟨rfl, by rw [HST.out]; exact HK.out.1, HK.out.2⟩
          | true =>
            have hns : ¬ s1.stops p := fun hh => by
              rcases hh with hh | hh
              · rw [HBB.out] at hh; omega
              · rw [HBB.out, Int.toNat_natCast, HFB.out] at hh; cases hh
            obtain ⟨hT1, hTl⟩ := hs1.take1 hpn hns
            have HT1 := Lib.hid hT1
            have HTL := Lib.hid hTl
            have HTN : Hid (takeN p (f - 1) (s1.take1 p) = s.takeAll p) := Lib.hid (by
              rw [← HR.out.2.2.2.2.2.1]; exact (take_some hns HR.out.2.2.2.2.1 hTl).symm)
            have HE1 : Hid (s1.take1 p = { s1 with got := put1 s1.got p (s1.got p ++ [(b : Int)]) }) := Lib.hid (by unfold SNet.take1; rw [HBB.out])
            obtain ⟨c2, dg, fg, ngt, hgS, hglt, hrow, ⟨a1, cc, hv⟩, hgb⟩ := h.gotAt vN hpn
            have HSETG := Lib.hid (fun (w1 : World) (hc : Chg (fun b => (V (.got p)).ownBlock = some b) wr w1) => SAt.setGot h vN hpn hc)
            have HVN := Lib.hid vN
            have HGS := Lib.hid hgS
            have HNS := Lib.hid (fun b (hb : (V (.got p)).ownBlock = some b) => (hgb b hb).2.1)
            have ng : ¬ (V (.got p)).ownBlock = some g := fun e => (hgb g e).2.2.2 rfl
            have nt : ¬ (V (.got p)).ownBlock = some t := fun e => (hgb t e).2.2.1 rfl
            obtain ⟨gl, HGL⟩ : ∃ x, Hid (s1.got p = x) := ⟨_, Lib.hid rfl⟩
            rw [hv] at dg hrow ng nt HSETG HNS
            rw [HGL.out] at dg hrow ng nt HSETG HNS
            rw [hn1] at c2
            have hgl : gl.length < 20 := by have := HTL.out; rw [HGL.out] at this; omega
            clear h vN hs1 hn1 hm1 hb hcell hns hT1 hTl hv hgb hgS
            go_wp2_with fail
            clear c1b d1b e2b
            refine wp_region_plan (Chg (fun b => (Value.slice a1 gl.length cc).ownBlock = some b) wr) 16 [(0,true),(1,true),(2,true),(3,true),(4,true),(5,true),(6,true),(7,true),(8,true),(9,true),(10,true),(11,true),(12,true),(13,false),(14,false),(15,true),(16,false)] mixed (by kernel_rfl) (Chg.refl _ _).drew ?_
            simp only [planOps, List.map_cons, List.map_nil, List.getElem?_cons_zero, List.getElem?_cons_succ, Option.getD_some]
            generalize hops : List.toArray _ = ops
            iterate 13 (refine wpPlan_quiet (v := ?_) rfl (fun _ _ _ h => h) (by intro w1 hS; have s0 := hS.cell_some c2 nt; have s1 := hS.cell_some dg ng; clear hS; go_simp; with_reducible rfl) ?_; (simp only [Act.put, List.setIfInBounds_toArray, List.set_cons_zero, List.set_cons_succ]))
            refine wpPlan_loud rfl (fun K hK => ?_)
            go_simp
            refine hK _ _ (fun _ => ((Chg.refl _ wr).drew).alloc _) ?_
            clear hK K
            (try simp only [Act.put, List.setIfInBounds_toArray, List.set_cons_zero, List.set_cons_succ])
            refine wpPlan_loud rfl (fun K hK => ?_)
            refine wp_app _ _ 29 rfl 3 (.int .i64 0) 1 8 infoInt Tryd.underlying29 rfl (by decide) (.slice a1 gl.length cc) gl.length _ (by rfl) ((((Chg.refl NoF wr).drew).alloc _).row hrow (fun _ _ hf => hf)) wr.heap.size 1 [.int .i64 b] (by rfl) ⟨3, (0, 0), heap_alloc_new wr.drew _⟩ rfl (by simp [Value.oneCell']) (by omega) (by omega) ?_
            intro g4 cap4 w4 hown4 hc4 hat4 hlt4
            have hc5 : Chg (fun b => (Value.slice a1 gl.length cc).ownBlock = some b) wr w4 := ((((Chg.refl NoF wr).drew).alloc _).ofNo).trans hc4
            refine hK _ _ (fun _ => hc5) ?_
            clear hK K
            (try simp only [Act.put, List.setIfInBounds_toArray, List.set_cons_zero, List.set_cons_succ])
            (refine wpPlan_quiet (v := ?_) rfl (fun _ _ _ h => h) (by intro w1 hS; clear hS; go_simp; with_reducible rfl) ?_; (simp only [Act.put, List.setIfInBounds_toArray, List.set_cons_zero, List.set_cons_succ]))
            refine wpPlan_loud rfl (fun K hK => ?_)
            have s2 := hc5.cell_some dg ng
            have f2 : w4.frozen? ⟨g, p, none⟩ = false := by rw [World.frozen?_of_block (hc5.block g hglt ng)]; exact fg
            go_simp
            refine hK _ _ (fun h => absurd rfl h) ?_
            clear hK K
            clear hops
            refine wpPlan_nil ?_
            have A6 := HSETG.out w4 hc5 (.slice (some ⟨g4, 0, none⟩) (gl.length + 1) cap4) (gl ++ [(b : Int)]) (by simpa using hown4) (fun b hb => by
              rcases hat4 b hb with h1 | h1
              · exact .inl h1
              · right; exact Nat.le_trans (((Chg.refl NoF wr).drew).alloc _).size h1)
            have HI : Hid (SIn S (w4.setCell ⟨g, p, none⟩ (.slice (some ⟨g4, 0, none⟩) (gl.length + 1) cap4)) t g (s1.take1 p)) := Lib.hid (by
              rw [HE1.out, HGL.out]
              exact ⟨_, _, ⟨cN, by rw [upd_ne V _ (by simp)]; exact HVN.out⟩, A6⟩)
            have HC : Hid (Chg (fun k => ¬ S k) w (w4.setCell ⟨g, p, none⟩ (.slice (some ⟨g4, 0, none⟩) (gl.length + 1) cap4))) := Lib.hid (HK.out.2.trans ((hc5.mono fun b _ hb => HNS.out b hb).setCell (.inl HGS.out) _))
            have HL2 : Hid (left (w4.setCell ⟨g, p, none⟩ (.slice (some ⟨g4, 0, none⟩) (gl.length + 1) cap4)) g p k = k + 1 - (gl.length + 1)) := Lib.hid (by
              have : (w4.setCell ⟨g, p, none⟩ (.slice (some ⟨g4, 0, none⟩) (gl.length + 1) cap4)).cell? ⟨g, p, none⟩ = some (.slice (some ⟨g4, 0, none⟩) (gl.length + 1) cap4) := by go_simp
              unfold left; rw [this])
            clear A6 hc5 hown4 hat4 hlt4 hc4 c2 dg fg nt ng hrow s2 f2 HSETG
            generalize w4.setCell ⟨g, p, none⟩ _ = w5 at *
            go_wp2
            go_roundw
            case rel => exact ⟨f - 1, s1.take1 p, Lib.hid ⟨HI.out, HT1.out, HS1.out.2.1, HS1.out.2.2, by
              have h1 := HR.out.2.2.2.2.1
              have h2 := HTL.out
              rw [HE1.out]
              show s1.m < f - 1 + (put1 s1.got p (s1.got p ++ [(b : Int)]) p).length
              rw [put1_self, List.length_append, List.length_singleton]; omega, HTN.out, HC.out⟩⟩
            case measure =>
              rw [HL2.out, HLF.out, HGL.out]
              have := HTL.out
              rw [HGL.out, HS1.out.2.2] at this; omega

end Go.Proofs.YtbindapfjghnaaaDoor
