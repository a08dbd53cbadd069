/-
  The lock for which one asks all others: sending.
  Conditions: a net as New made it; fewer than 1000000 messages on each way.
-/
import Derived.Test.YtmkjfiopkmcjcaaDoorGrA
namespace Go.Proofs.YtmkjfiopkmcjcaaDoor
open Go Go.RowKit

def DonePost (S : Nat → Prop) (w : World) (t g : Nat) (s' : GNet) (e : Ending) (w' : World) : Prop :=
  e = .returned (.tuple #[]) ∧ GIn S w' t g s' ∧ Chg (fun k => ¬ S k) w w'

set_option maxHeartbeats 1000000 in
set_option maxRecDepth 100000 in
theorem send_any (S : Nat → Prop) (w : World) (t g : Nat) (s : GNet) (h : GIn S w t g s) (p q : Nat) (m : Int) (hp : p < s.n) (hq : q < s.n) (hlen : (s.ways p q).length < 1000000) :
    Calls Tryd.prog 24 #[.pointer (some ⟨t, 0, none⟩), .int .i64 p, .int .i64 q, .int .i64 m] w (DonePost S w t g (s.push p q m)) := by
  obtain ⟨V, tag, hg, h⟩ := h
  have HG := Lib.hid hg
  clear hg
  obtain ⟨gW, cW, gR, cR, vW, vR, cWp, cRq, fR, ltW, ltR⟩ := h.way hp hq
  have c1 := h.top1
  rw [vW] at c1
  obtain ⟨hM, hMb⟩ := h.msg hp hq
  have nt : ¬ (V (.msg p q)).ownBlock = some t := fun hf => (hMb t hf).2.2.1 rfl
  have nW : ¬ (V (.msg p q)).ownBlock = some gW := fun hf => (hMb gW hf).2.2.2.2.1 (by rw [vW]; rfl)
  have nR : ¬ (V (.msg p q)).ownBlock = some gR := fun hf => (hMb gR hf).2.2.2.2.2 (by rw [vR]; rfl)
  obtain ⟨M, HM⟩ : ∃ M, Hid (V (.msg p q) = M) := ⟨_, Lib.hid rfl⟩
  obtain ⟨n, hN⟩ : ∃ n, Hid (s.n = n) := ⟨_, Lib.hid rfl⟩
  obtain ⟨l, HL⟩ : ∃ l, Hid (s.ways p q = l) := ⟨_, Lib.hid rfl⟩
  have HSET := Lib.hid (fun (w1 : World) (hc : Chg (fun b => (V (.msg p q)).ownBlock = some b) w w1) => h.setWay hp hq vR hc)
  have HG2 := Lib.hid (fun (v : Value) => show ∃ cap, upd V (.msg p q) v .nodes = .slice (some ⟨g, 0, none⟩) s.n cap by rw [upd_ne V _ (by simp)]; exact HG.out)
  have HNS := Lib.hid (fun b (hb : (V (.msg p q)).ownBlock = some b) => (hMb b hb).2.1)
  have HRS : Hid (¬ S gR) := Lib.hid (h.notS (i := .row p) (by rw [s.rowsR _ _ V hp]; show (V (.row p)).ownBlock = _; rw [vR]; rfl))
  rw [HM.out] at nt nW nR cRq hM HSET HNS
  rw [HL.out] at hlen hM
  rw [hN.out] at c1 cWp hp hq
  have hp1 : (p : Int) < n := by omega
  have hq1 : (q : Int) < n := by omega
  have FR := Lib.hid fR
  clear hMb h fR vW vR
  go_enter Tryd.func24, Tryd.ntmps24
  go_wp2
  refine wp_region_plan (Chg (fun k => M.ownBlock = some k) w) 22
    [(0,true),(1,true),(2,true),(3,true),(4,true),(5,true),(6,true),(7,true),(8,true),(9,true),(10,true),(11,true),(12,true),(13,true),(14,true),(15,true),(16,true),(17,true),(18,true),(19,false),(20,false),(21,true),(22,false)] mixed (by kernel_rfl) (Chg.refl _ w).drew ?_
  simp only [planOps, List.map_cons, List.map_nil, List.getElem?_cons_zero, List.getElem?_cons_succ, Option.getD_some]
  generalize List.toArray _ = ops
  iterate 19 (refine wpPlan_quiet (v := ?_) rfl (fun _ _ _ h => h) (by intro w1 hS; have s1 := hS.cell_some c1 nt; have s2 := hS.cell_some cWp nW; have s3 := hS.cell_some cRq nR; clear hS; go_simp; with_reducible rfl) ?_; (simp only [Act.put, List.setIfInBounds_toArray, List.set_cons_zero, List.set_cons_succ]))
  refine wpPlan_loud rfl (fun K hK => ?_)
  go_simp
  refine hK _ _ (fun _ => ((Chg.refl _ w).alloc _).drew) ?_
  clear hK K
  refine wpPlan_loud rfl (fun K hK => ?_)
  obtain ⟨i0, ii, iz, is, ib⟩ := info_parts infoMsg
  refine wp_append_lies _ _ _ 63 rfl 0 58 i0 (.int .i64 0) 1 8 Tryd.underlying63 ii iz is ib rfl (by decide) M _ _ (by rfl) (hM.alloc _).drew ⟨w.heap.size, 0, none⟩ 1 1 [.int .i64 m] (by rfl) (by rfl) (World.news_of_block (cs := #[.int .i64 m]) (t := 58) (fr := (0, 0)) (heap_alloc_new w _)) (by simp [Value.oneCell']) (by omega) (by unfold maxLen; omega) (by omega) (by simp) _ rfl ?_
  intro g cap w1 hown hgrow hat hlt1
  have hc1 : Chg (fun k => M.ownBlock = some k) w w1 := (((Chg.refl _ w).alloc _).drew).grown hgrow (fun k hk => .inl hk)
  have hnb : ∀ k, (Value.slice (some ⟨g, 0, none⟩) (l.length + 1) cap).ownBlock = some k → M.ownBlock = some k ∨ w.heap.size ≤ k := fun k hk => by
    obtain rfl : g = k := by simpa [Value.ownBlock] using hk
    rcases hat with h1 | h1
    · exact .inl h1
    · right; rw [h1]; simp
  refine hK _ _ (fun _ => hc1) ?_
  clear hK K
  (simp only [Act.put, List.setIfInBounds_toArray, List.set_cons_zero, List.set_cons_succ])
  refine wpPlan_quiet (v := ?_) rfl (fun _ _ _ h => h) (by intro w1 hS; have s1 := hS.cell_some c1 nt; have s2 := hS.cell_some cWp nW; have s3 := hS.cell_some cRq nR; clear hS; go_simp; with_reducible rfl) ?_; (simp only [Act.put, List.setIfInBounds_toArray, List.set_cons_zero, List.set_cons_succ])
  refine wpPlan_loud rfl (fun K hK => ?_)
  have s2 := hc1.cell_some cRq nR
  have f2 : w1.frozen? ⟨gR, q, none⟩ = false := by rw [World.frozen?_of_block (hc1.block gR ltR nR)]; exact FR.out q
  go_simp
  refine hK _ _ (fun h => absurd rfl h) ?_
  clear hK K
  refine wpPlan_nil ?_
  have hR := HSET.out w1 hc1 (.slice (some ⟨g, 0, none⟩) (l.length + 1) cap) (l ++ [m]) (by simpa using hown) hnb
  have hc2 : Chg (fun k => ¬ S k) w (w1.setCell ⟨gR, q, none⟩ (.slice (some ⟨g, 0, none⟩) (l.length + 1) cap)) := (hc1.mono fun k _ hk => HNS.out k hk).setCell (.inl HRS.out) _
  go_wp2
  go_end0
  have e : s.push p q m = { s with ways := put2 s.ways p q (l ++ [m]) } := by unfold GNet.push; rw [HL.out]
  exact ⟨rfl, by rw [e]; exact ⟨_, _, HG2.out _, hR⟩, hc2⟩

set_option maxHeartbeats 1000000 in
theorem is_any (S : Nat → Prop) (w : World) (t g : Nat) (s : GNet) (h : GIn S w t g s) (h0 : 0 < s.n) (i : Int) :
    Calls Tryd.prog 23 #[.pointer (some ⟨t, 0, none⟩), .int .i64 i] w fun e w' => e = .returned (.bool (s.is i)) ∧ w = w' := by
  obtain ⟨V, tag, ⟨cN, vN⟩, h⟩ := h
  have c0 := h.top0
  rw [vN] at c0
  have HR : Hid (s.is i = inB i 0 ((s.n : Int) - 1)) := Lib.hid rfl
  rw [HR.out]
  have hn5 : s.n ≤ 9223372036854775807 := by
    obtain ⟨_, _, h1, _, _, h2, h3⟩ := h.val .nodes h0
    have h4 : s.n ≤ _ := h2
    have : maxLen = 9223372036854775807 := rfl
    omega
  obtain ⟨n, hN⟩ : ∃ n, Hid (s.n = n) := ⟨_, Lib.hid rfl⟩
  rw [hN.out] at c0 h0 hn5 ⊢
  clear h vN HR
  go_enter Tryd.func23, Tryd.ntmps23
  go_wp2_with (go_at_call 31; refine (within_any _ _ _ _).mono ?_; rintro e w' ⟨rfl, rfl⟩)
  go_ret
  exact ⟨rfl, rfl⟩

end Go.Proofs.YtmkjfiopkmcjcaaDoor
