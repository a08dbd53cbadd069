/-
  The net of work and thanks: sending, resting, and what is told.
  Conditions: a net as New made it; fewer than 1000000 messages on each way.
-/
import Derived.Test.YtbckjmbhipofaaaDoorCaA
namespace Go.Proofs.YtbckjmbhipofaaaDoor
open Go Go.RowKit

def DonePost (S : Nat → Prop) (w : World) (t g : Nat) (s' : CNet) (e : Ending) (w' : World) : Prop :=
  e = .returned (.tuple #[]) ∧ CIn S w' t g s' ∧ Chg (fun k => ¬ S k) w w'

set_option maxHeartbeats 1000000 in
set_option maxRecDepth 100000 in
theorem send_any (S : Nat → Prop) (w : World) (t g : Nat) (s : CNet) (h : CIn S w t g s) (p q : Nat) (m : Int) (hp : p < s.n) (hq : q < s.n) (hlen : (s.ways p q).length < 1000000) :
    Calls Tryd.prog 25 #[.pointer (some ⟨t, 0, none⟩), .int .i64 p, .int .i64 q, .int .i64 m] w (DonePost S w t g (s.push p q m)) := by
  obtain ⟨V, tag, hg, h⟩ := h
  have HG := Lib.hid hg
  clear hg
  obtain ⟨gW, cW, gR, cR, vW, vR, cWp, cRq, fR, ltW, ltR⟩ := h.way hp hq
  have c1 := h.top1
  rw [vW] at c1
  obtain ⟨hM, hMb⟩ := h.msg hp hq
  have nt : ¬ (V (.msg p q)).ownBlock = some t := fun hf => (hMb t hf).2.2.1 rfl
  have nW : ¬ (V (.msg p q)).ownBlock = some gW := fun hf => (hMb gW hf).2.2.2.2.1 (by rw [vW]; rfl)
  have nR : ¬ (V (.msg p q)).ownBlock = some gR := fun hf => (hMb gR hf).2.2.2.2.2 (by rw [vR]; rfl)
  obtain ⟨M, HM⟩ : ∃ M, Hid (V (.msg p q) = M) := ⟨_, Lib.hid rfl⟩
  obtain ⟨n, hN⟩ : ∃ n, Hid (s.n = n) := ⟨_, Lib.hid rfl⟩
  obtain ⟨l, HL⟩ : ∃ l, Hid (s.ways p q = l) := ⟨_, Lib.hid rfl⟩
  have HSET := Lib.hid (fun (w1 : World) (hc : Chg (fun b => (V (.msg p q)).ownBlock = some b) w w1) => h.setWay hp hq vR hc)
  have HG2 := Lib.hid (fun (v : Value) => show ∃ cap, upd V (.msg p q) v .nodes = .slice (some ⟨g, 0, none⟩) s.n cap by rw [upd_ne V _ (by simp)]; exact HG.out)
  have HNS := Lib.hid (fun b (hb : (V (.msg p q)).ownBlock = some b) => (hMb b hb).2.1)
  have HRS : Hid (¬ S gR) := Lib.hid (h.notS (i := .row p) (by rw [s.rowsR _ _ V hp]; show (V (.row p)).ownBlock = _; rw [vR]; rfl))
  rw [HM.out] at nt nW nR cRq hM HSET HNS
  rw [HL.out] at hlen hM
  rw [hN.out] at c1 cWp hp hq
  have hp1 : (p : Int) < n := by omega
  have hq1 : (q : Int) < n := by omega
  have FR := Lib.hid fR
  clear hMb h fR vW vR
  go_enter Tryd.func25, Tryd.ntmps25
  go_wp2
  refine wp_region_plan (Chg (fun k => M.ownBlock = some k) w) 22
    [(0,true),(1,true),(2,true),(3,true),(4,true),(5,true),(6,true),(7,true),(8,true),(9,true),(10,true),(11,true),(12,true),(13,true),(14,true),(15,true),(16,true),(17,true),(18,true),(19,false),(20,false),(21,true),(22,false)] mixed (by kernel_rfl) (Chg.refl _ w).drew ?_
  simp only [planOps, List.map_cons, List.map_nil, List.getElem?_cons_zero, List.getElem?_cons_succ, Option.getD_some]
  generalize List.toArray _ = ops
  iterate 19 (refine wpPlan_quiet (v := ?_) rfl (fun _ _ _ h => h) (by intro w1 hS; have s1 := hS.cell_some c1 nt; have s2 := hS.cell_some cWp nW; have s3 := hS.cell_some cRq nR; clear hS; go_simp; with_reducible rfl) ?_; (simp only [Act.put, List.setIfInBounds_toArray, List.set_cons_zero, List.set_cons_succ]))
  refine wpPlan_loud rfl (fun K hK => ?_)
  go_simp
  refine hK _ _ (fun _ => ((Chg.refl _ w).alloc _).drew) ?_
  clear hK K
  refine wpPlan_loud rfl (fun K hK => ?_)
  obtain ⟨i0, ii, iz, is, ib⟩ := info_parts infoInt
  refine wp_append_lies _ _ _ 29 rfl 0 3 i0 (.int .i64 0) 1 8 Tryd.underlying29 ii iz is ib rfl (by decide) M _ _ (by rfl) (hM.alloc _).drew ⟨w.heap.size, 0, none⟩ 1 1 [.int .i64 m] (by rfl) (by rfl) (World.news_of_block (cs := #[.int .i64 m]) (t := 3) (fr := (0, 0)) (heap_alloc_new w _)) (by simp [Value.oneCell']) (by omega) (by unfold maxLen; omega) (by omega) (by simp) _ rfl ?_
  intro g cap w1 hown hgrow hat hlt1
  have hc1 : Chg (fun k => M.ownBlock = some k) w w1 := (((Chg.refl _ w).alloc _).drew).grown hgrow (fun k hk => .inl hk)
  have hnb : ∀ k, (Value.slice (some ⟨g, 0, none⟩) (l.length + 1) cap).ownBlock = some k → M.ownBlock = some k ∨ w.heap.size ≤ k := fun k hk => by
    obtain rfl : g = k := by simpa [Value.ownBlock] using hk
    rcases hat with h1 | h1
    · exact .inl h1
    · right; rw [h1]; simp
  refine hK _ _ (fun _ => hc1) ?_
  clear hK K
  (simp only [Act.put, List.setIfInBounds_toArray, List.set_cons_zero, List.set_cons_succ])
  refine wpPlan_quiet (v := ?_) rfl (fun _ _ _ h => h) (by intro w1 hS; have s1 := hS.cell_some c1 nt; have s2 := hS.cell_some cWp nW; have s3 := hS.cell_some cRq nR; clear hS; go_simp; with_reducible rfl) ?_; (simp only [Act.put, List.setIfInBounds_toArray, List.set_cons_zero, List.set_cons_succ])
  refine wpPlan_loud rfl (fun K hK => ?_)
  have s2 := hc1.cell_some cRq nR
  have f2 : w1.frozen? ⟨gR, q, none⟩ = false := by rw [World.frozen?_of_block (hc1.block gR ltR nR)]; exact FR.out q
  go_simp
  refine hK _ _ (fun h => absurd rfl h) ?_
  clear hK K
  refine wpPlan_nil ?_
  have hR := HSET.out w1 hc1 (.slice (some ⟨g, 0, none⟩) (l.length + 1) cap) (l ++ [m]) (by simpa using hown) hnb
  have hc2 : Chg (fun k => ¬ S k) w (w1.setCell ⟨gR, q, none⟩ (.slice (some ⟨g, 0, none⟩) (l.length + 1) cap)) := (hc1.mono fun k _ hk => HNS.out k hk).setCell (.inl HRS.out) _
  go_wp2
  go_end0
  have e : s.push p q m = { s with ways := put2 s.ways p q (l ++ [m]) } := by unfold CNet.push; rw [HL.out]
  exact ⟨rfl, by rw [e]; exact ⟨_, _, HG2.out _, hR⟩, hc2⟩

set_option maxHeartbeats 1000000 in
theorem is_any (S : Nat → Prop) (w : World) (t g : Nat) (s : CNet) (h : CIn S w t g s) (h0 : 0 < s.n) (i : Int) :
    Calls Tryd.prog 24 #[.pointer (some ⟨t, 0, none⟩), .int .i64 i] w fun e w' => e = .returned (.bool (s.is i)) ∧ w = w' := by
  obtain ⟨V, tag, ⟨cN, vN⟩, h⟩ := h
  have c0 := h.top0
  rw [vN] at c0
  have HR : Hid (s.is i = inB i 0 ((s.n : Int) - 1)) := Lib.hid rfl
  rw [HR.out]
  have hn5 : s.n ≤ 9223372036854775807 := by
    obtain ⟨_, _, h1, _, _, h2, h3⟩ := h.val .nodes h0
    have h4 : s.n ≤ _ := h2
    have : maxLen = 9223372036854775807 := rfl
    omega
  obtain ⟨n, hN⟩ : ∃ n, Hid (s.n = n) := ⟨_, Lib.hid rfl⟩
  rw [hN.out] at c0 h0 hn5 ⊢
  clear h vN HR
  go_enter Tryd.func24, Tryd.ntmps24
  go_wp2_with (go_at_call 18; refine (within_any _ _ _ _).mono ?_; rintro e w' ⟨rfl, rfl⟩)
  go_ret
  exact ⟨rfl, rfl⟩

set_option maxHeartbeats 1000000 in
set_option maxRecDepth 100000 in
theorem rest_any (S : Nat → Prop) (w : World) (t g : Nat) (s : CNet) (h : CIn S w t g s) (p : Nat) (hp : p < s.n) (hpar : s.parent p < s.n) (hlen : ∀ q, q < s.n → (s.ways p q).length < 1000000) :
    Calls Tryd.prog 28 #[.pointer (some ⟨t, 0, none⟩), .int .i64 p] w (DonePost S w t g (s.rest p)) := by
  have HIN := Lib.hid h
  obtain ⟨V, tag, ⟨cN, vN⟩, h⟩ := h
  obtain ⟨hcell, hfr, htN, hSg, c0⟩ := h.nodeAt vN
  have d0 : w.cell? ⟨g, p * 3, none⟩ = some (.bool (s.works p)) := hcell p 0 hp (by omega)
  have d1 : w.cell? ⟨g, p * 3 + 1, none⟩ = some (.int .i64 (s.parent p)) := hcell p 1 hp (by omega)
  have d2 : w.cell? ⟨g, p * 3 + 2, none⟩ = some (.int .i64 (s.owed p)) := hcell p 2 hp (by omega)
  have f3 : w.frozen? ⟨t, 3, none⟩ = false := h.blk.frozen 3
  have c3 := h.top3
  have HH := Lib.hid h
  have VN := Lib.hid vN
  obtain ⟨wk, hWK⟩ : ∃ x, Hid (s.works p = x) := ⟨_, Lib.hid rfl⟩
  obtain ⟨ow, hOW⟩ : ∃ x, Hid (s.owed p = x) := ⟨_, Lib.hid rfl⟩
  obtain ⟨pa, hPA⟩ : ∃ x, Hid (s.parent p = x) := ⟨_, Lib.hid rfl⟩
  obtain ⟨n, hN⟩ : ∃ n, Hid (s.n = n) := ⟨_, Lib.hid rfl⟩
  rw [hWK.out] at d0
  rw [hPA.out] at d1 hpar
  rw [hOW.out] at d2
  rw [hN.out] at c0 hp hpar
  have hp1 : (p : Int) < n := by omega
  clear hcell hfr h vN hSg
  have same : s.rest p = s → DonePost S w t g (s.rest p) (.returned (.tuple #[])) w := fun e => ⟨rfl, by rw [e]; exact HIN.out, Chg.refl _ _⟩
  have SAME := Lib.hid same
  clear same
  cases wk with
  | true =>
    go_enter Tryd.func28, Tryd.ntmps28
    go_wp2
    go_end0
    exact SAME.out (by unfold CNet.rest; rw [if_pos hWK.out])
  | false =>
    go_enter Tryd.func28, Tryd.ntmps28
    by_cases ho : 0 < ow
    · go_wp2
      go_end0
      exact SAME.out (by unfold CNet.rest; rw [if_neg (by rw [hWK.out]; simp), if_pos (by rw [hOW.out]; exact ho)])
    · by_cases ha : pa < 0
      · go_wp2
        go_end0
        exact SAME.out (by unfold CNet.rest; rw [if_neg (by rw [hWK.out]; simp), if_neg (by rw [hOW.out]; omega), if_pos (by rw [hPA.out]; omega)])
      · by_cases h0 : p = 0
        · have hrest : Hid (s.rest p = { s with calm := true }) := Lib.hid (by
            unfold CNet.rest; rw [if_neg (by rw [hWK.out]; simp), if_neg (by rw [hOW.out]; exact ho), if_neg (by rw [hPA.out]; exact ha), if_pos h0])
          have HS := Lib.hid ((show Mem S w t (s.top V) (s.rows s.n s.n V) tag from HH.out).setTop 3 (.bool true))
          have HC := Lib.hid (HH.out.chgTop 3 (.bool true))
          have h01 : ((p : Int) == 0) = true := by subst h0; rfl
          clear HH h0
          go_wp2
          go_end0
          exact ⟨rfl, by rw [hrest.out]; exact ⟨V, tag, ⟨cN, VN.out⟩, HS.out.congr rfl fun i => by cases i <;> rfl⟩, HC.out⟩
        · have hrest : Hid (s.rest p = { s.push p (s.parent p).toNat 2 with parent := put1 s.parent p (-1) }) := Lib.hid (by
            unfold CNet.rest; rw [if_neg (by rw [hWK.out]; simp), if_neg (by rw [hOW.out]; exact ho), if_neg (by rw [hPA.out]; exact ha), if_neg h0])
          have h01 : ((p : Int) == 0) = false := by rw [beq_eq_false_iff_ne]; omega
          obtain ⟨u, rfl⟩ := Int.eq_ofNat_of_zero_le (show 0 ≤ pa by omega)
          have HSD := Lib.hid (send_any S w t g s HIN.out p u 2 (by rw [hN.out]; exact hp) (by rw [hN.out]; omega) (hlen u (by rw [hN.out]; omega)))
          clear ha hlen h0
          go_wp2_with fail
          refine HSD.out.mono ?_
          rintro e w1 ⟨rfl, hin1, hc1⟩
          obtain ⟨V1, tag1, ⟨cN1, vN1⟩, h1⟩ := hin1
          obtain ⟨hcell1, hfr1, htN1, hSg1, c01⟩ := h1.nodeAt vN1
          have hps : p < (s.push p u 2).n := by show p < s.n; rw [hN.out]; exact hp
          have e1 : w1.cell? ⟨g, p * 3 + 1, none⟩ = some (.int .i64 (s.parent p)) := hcell1 p 1 hps (by omega)
          have g1 : w1.frozen? ⟨g, p * 3 + 1, none⟩ = false := hfr1 _
          have HS := Lib.hid (h1.setNode vN1 hps (c := 1) (by omega) (.int .i64 (-1)) { s.push p u 2 with parent := put1 s.parent p (-1) } rfl rfl rfl rfl (by show (Value.int .i64 (put1 s.parent p (-1) p)) = _; rw [put1_self]) (fun q d hd hne => by
            unfold CNet.cell
            by_cases ed : d = 1
            · subst ed
              have hq : q ≠ p := by omega
              show (Value.int .i64 (put1 s.parent p (-1) q)) = .int .i64 (s.parent q)
              rw [put1_ne _ _ hq]
            · rw [if_neg ed, if_neg ed]))
          have HC := Lib.hid (hc1.setCell (p := ⟨g, p * 3 + 1, none⟩) (.inl hSg1) (.int .i64 (-1)))
          have VN1 := Lib.hid vN1
          clear hcell1 hfr1 h1 hc1 vN1 c01 HH
          go_wp2
          go_end0
          exact ⟨rfl, by rw [hrest.out, hPA.out]; exact ⟨V1, tag1, ⟨cN1, VN1.out⟩, HS.out⟩, HC.out⟩

end Go.Proofs.YtbckjmbhipofaaaDoor
