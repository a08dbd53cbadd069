/-
  The lock for which one asks all others: what is told of a way.
  Conditions: a net as New made it, with fewer than 1000 messages on each way.
-/
import Derived.Test.YtmkjfiopkmcjcaaDoorGrF
namespace Go.Proofs.YtmkjfiopkmcjcaaDoor
open Go Go.RowKit

def GNet.wayOf (s : GNet) (p q : Int) : List Int := if s.is p = true ∧ s.is q = true then s.ways p.toNat q.toNat else []

set_option maxHeartbeats 2000000 in
set_option maxRecDepth 100000 in
theorem way_any (S : Nat → Prop) (w : World) (t g : Nat) (s : GNet) (h : GIn S w t g s) (hs : Sane s) (p q : Int) :
    Calls Tryd.prog 16 #[.pointer (some ⟨t, 0, none⟩), .int .i64 p, .int .i64 q] w fun e w' => ∃ v, e = .returned v ∧ Rd (NewB w) w' v (s.wayOf p q) ∧ Chg NoF w w' := by
  have HP := Lib.hid (is_any S w t g s h hs.n0 p)
  have HQ := Lib.hid (is_any S w t g s h hs.n0 q)
  cases hip : s.is p with
  | false =>
    have hE : Hid (s.wayOf p q = []) := Lib.hid (by unfold GNet.wayOf; rw [if_neg (by rw [hip]; simp)])
    rw [hE.out]
    rw [hip] at HP
    clear h hs hip
    go_enter Tryd.func16, Tryd.ntmps16
    go_wp2_with fail
    refine HP.out.mono ?_
    rintro e w' ⟨rfl, rfl⟩
    go_wp2
    go_ret
    exact ⟨_, rfl, Rd.nil _ _, Chg.refl _ _⟩
  | true =>
  cases hiq : s.is q with
  | false =>
    have hE : Hid (s.wayOf p q = []) := Lib.hid (by unfold GNet.wayOf; rw [if_neg (by rw [hiq]; simp)])
    rw [hE.out]
    rw [hip] at HP
    rw [hiq] at HQ
    clear h hs hip hiq
    go_enter Tryd.func16, Tryd.ntmps16
    go_wp2_with fail
    refine HP.out.mono ?_
    rintro e w' ⟨rfl, rfl⟩
    go_wp2_with fail
    refine HQ.out.mono ?_
    rintro e w' ⟨rfl, rfl⟩
    go_wp2
    go_ret
    exact ⟨_, rfl, Rd.nil _ _, Chg.refl _ _⟩
  | true =>
    have hE : Hid (s.wayOf p q = s.ways p.toNat q.toNat) := Lib.hid (by unfold GNet.wayOf; rw [if_pos ⟨hip, hiq⟩])
    rw [hE.out]
    rw [hip] at HP
    rw [hiq] at HQ
    obtain ⟨a, rfl, ha⟩ := (s.is_iff p).1 hip
    obtain ⟨b, rfl, hbn⟩ := (s.is_iff q).1 hiq
    rw [Int.toNat_natCast, Int.toNat_natCast]
    obtain ⟨V, tag, ⟨cN, vN⟩, h⟩ := h
    obtain ⟨gW, cW, gR, cR, vW, vR, cWp, cRq, fR, ltW, ltR⟩ := h.way ha hbn
    have c1 := h.top1
    rw [vW] at c1
    obtain ⟨hM, _⟩ := h.msg ha hbn
    have hlen := hs.len a b ha hbn
    obtain ⟨l, HL⟩ : ∃ l, Hid (s.ways a b = l) := ⟨_, Lib.hid rfl⟩
    rw [HL.out] at hM hlen ⊢
    have HRD : Hid (Rd (fun _ => True) w (V (.msg a b)) l) := Lib.hid (Rd.ofOwns hM (fun _ _ => trivial))
    obtain ⟨aM, cM, hMv⟩ := owns_val hM
    rw [hMv] at HRD cRq
    obtain ⟨m, hm⟩ : ∃ m, Hid (l.length = m) := ⟨_, Lib.hid rfl⟩
    obtain ⟨n, hN⟩ : ∃ n, Hid (s.n = n) := ⟨_, Lib.hid rfl⟩
    rw [hm.out] at HRD cRq hlen
    rw [hN.out] at c1 cWp ha hbn
    have ha1 : (a : Int) < n := by omega
    have hb1 : (b : Int) < n := by omega
    obtain ⟨i0, hi, hz0, hz1, hz2⟩ := info_parts infoInt
    clear h vN vW vR fR hM hs hip hiq hMv
    go_enter Tryd.func16, Tryd.ntmps16
    go_wp2_with fail
    refine HP.out.mono ?_
    rintro e w' ⟨rfl, rfl⟩
    go_wp2_with fail
    refine HQ.out.mono ?_
    rintro e w' ⟨rfl, rfl⟩
    go_wp2_with fail
    clear c1 cWp cRq
    go_loopw [7, 31] (fun v i wr => ∃ k : Nat, k ≤ m ∧ i = .int .i64 k ∧ ∃ va vc, v = .slice va k vc ∧ Hid (wr.ownsRow w.heap.size 3 1 (.slice va k vc) k ((l.take k).map (.int .i64)) ∧ Chg NoF w wr)) (fun _ i _ => m - (intOf i).toNat)
    case atStart => exact ⟨0, Nat.zero_le _, rfl, none, 0, rfl, Lib.hid ⟨World.ownsRow_nil _ _ _ _, Chg.refl _ _⟩⟩
    case round =>
      obtain ⟨k, hkm, rfl, va, vc, rfl, HK⟩ := hrel
      by_cases hk : k < m
      · have hk1 : (k : Int) < m := by omega
        have HKM : Hid (k + 1 ≤ m) := Lib.hid hk
        obtain ⟨bM, oM, cM', eM, -, hcM⟩ := (HRD.out.keep HK.out.2 (fun _ _ h => h)).form (by rw [hm.out]; omega)
        rw [hm.out] at eM
        simp only [Value.slice.injEq] at eM
        obtain ⟨rfl, -, rfl⟩ := eM
        have dM := hcM k (by rw [hm.out]; exact hk)
        obtain ⟨x, HX⟩ : ∃ x, Hid (l.getD k 0 = x) := ⟨_, Lib.hid rfl⟩
        rw [HX.out] at dM
        have HRA : Hid ((wr.alloc (.cells #[.int .i64 x] 3)).ownsRow w.heap.size 3 1 (.slice va k vc) k ((l.take k).map (.int .i64))) := Lib.hid (((Chg.refl NoF wr).alloc _).row HK.out.1 (fun _ _ h => h))
        have HSZ : Hid (w.heap.size ≤ wr.heap.size) := Lib.hid HK.out.2.size
        have HTK : Hid ((l.take (k + 1)).map (Value.int .i64) = (l.take k).map (Value.int .i64) ++ [.int .i64 x]) := Lib.hid (by
          have hkl : k < l.length := by rw [hm.out]; exact hk
          rw [List.take_succ_eq_append_getElem hkl, List.map_append, ← HX.out]
          simp [List.getD, hkl])
        clear hcM hk hkm
        go_wp2_with (at_builtin; refine wpList_append_lies _ rfl _ _ 29 rfl w.heap.size 3 i0 (.int .i64 0) 1 8 Tryd.underlying29 hi hz0 hz1 hz2 rfl (by decide) (.slice va k vc) k ((l.take k).map (.int .i64)) rfl HRA.out ⟨wr.heap.size, 0, none⟩ 1 1 [.int .i64 x] rfl rfl (World.news_of_block (cs := #[.int .i64 x]) (t := 3) (fr := (0, 0)) (heap_alloc_new wr _)) (by simp [Value.oneCell']) (by omega) (by unfold maxLen; omega) (by omega) (by have := HSZ.out; simp; omega) _ rfl ?_; intro gP cP w2 hown hgrow hat hlt2; have HOW := Lib.hid hown; have HGW := Lib.hid hgrow; clear hown hgrow hat hlt2)
        have HN2 : Hid (w2.ownsRow w.heap.size 3 1 (.slice (some ⟨gP, 0, none⟩) (k + 1) cP) (k + 1) ((l.take (k + 1)).map (.int .i64)) ∧ Chg NoF w w2) := Lib.hid ⟨by rw [HTK.out]; exact HOW.out, (HK.out.2.alloc _).grown HGW.out (fun b hb => .inr (HRA.out.lt b hb).1)⟩
        clear dM HOW HGW
        (try go_wp2)
        go_roundw
        case rel => exact ⟨k + 1, HKM.out, by go_num, _, _, rfl, HN2⟩
        case measure => have := HKM.out; simp [intOf]; omega
      · obtain rfl : m = k := by omega
        have hk1 : ¬ (m : Int) < m := by omega
        clear hk hkm
        go_wp2
        go_ret
        have h1 := HK.out.1
        rw [show l.take m = l by rw [← hm.out, List.take_length]] at h1
        exact ⟨_, rfl, Rd.ofOwns h1 (fun b hb => Nat.not_lt.2 (h1.lt b hb).1), HK.out.2⟩

end Go.Proofs.YtmkjfiopkmcjcaaDoor
