/-
  The lock for which one asks all others: a node's fields; who all others are; coming in.
  Conditions: a net as New made it, with at most 4 nodes.
-/
import Derived.Test.YtmkjfiopkmcjcaaDoorGrB
namespace Go.Proofs.YtmkjfiopkmcjcaaDoor
open Go Go.RowKit

section
variable {S : Nat → Prop} {w : World} {t g cap p : Nat} {s : GNet} {V : Ix → Value} {tag : Nat → Option (Option Ix)}

theorem GAt.setSt (h : GAt S w t s s.n s.n V tag) (hv : V .nodes = .slice (some ⟨g, 0, none⟩) s.n cap) (hp : p < s.n) (b : Int) :
    GAt S (w.setCell ⟨g, p * 5, none⟩ (.int .i64 b)) t { s with st := put1 s.st p b } s.n s.n V tag :=
  h.setNode hv (p := p) (c := 0) hp (by omega) (.int .i64 b) { s with st := put1 s.st p b } rfl rfl (by show Value.int .i64 (put1 s.st p b p) = _; rw [put1_self]) (fun q d hd hne => by
    by_cases e : d = 0
    · subst e
      have hq : q ≠ p := by omega
      show Value.int .i64 (put1 s.st p b q) = .int .i64 (s.st q)
      rw [put1_ne _ _ hq]
    · have hd' : d = 1 ∨ d = 2 ∨ d = 3 ∨ d = 4 := by omega
      rcases hd' with rfl | rfl | rfl | rfl <;> rfl)

theorem GAt.setCk (h : GAt S w t s s.n s.n V tag) (hv : V .nodes = .slice (some ⟨g, 0, none⟩) s.n cap) (hp : p < s.n) (b : Int) :
    GAt S (w.setCell ⟨g, p * 5 + 1, none⟩ (.int .i64 b)) t { s with ck := put1 s.ck p b } s.n s.n V tag :=
  h.setNode hv (p := p) (c := 1) hp (by omega) (.int .i64 b) { s with ck := put1 s.ck p b } rfl rfl (by show Value.int .i64 (put1 s.ck p b p) = _; rw [put1_self]) (fun q d hd hne => by
    by_cases e : d = 1
    · subst e
      have hq : q ≠ p := by omega
      show Value.int .i64 (put1 s.ck p b q) = .int .i64 (s.ck q)
      rw [put1_ne _ _ hq]
    · have hd' : d = 0 ∨ d = 2 ∨ d = 3 ∨ d = 4 := by omega
      rcases hd' with rfl | rfl | rfl | rfl <;> rfl)

theorem GAt.setTm (h : GAt S w t s s.n s.n V tag) (hv : V .nodes = .slice (some ⟨g, 0, none⟩) s.n cap) (hp : p < s.n) (b : Int) :
    GAt S (w.setCell ⟨g, p * 5 + 2, none⟩ (.int .i64 b)) t { s with tm := put1 s.tm p b } s.n s.n V tag :=
  h.setNode hv (p := p) (c := 2) hp (by omega) (.int .i64 b) { s with tm := put1 s.tm p b } rfl rfl (by show Value.int .i64 (put1 s.tm p b p) = _; rw [put1_self]) (fun q d hd hne => by
    by_cases e : d = 2
    · subst e
      have hq : q ≠ p := by omega
      show Value.int .i64 (put1 s.tm p b q) = .int .i64 (s.tm q)
      rw [put1_ne _ _ hq]
    · have hd' : d = 0 ∨ d = 1 ∨ d = 3 ∨ d = 4 := by omega
      rcases hd' with rfl | rfl | rfl | rfl <;> rfl)

theorem GAt.setGr (h : GAt S w t s s.n s.n V tag) (hv : V .nodes = .slice (some ⟨g, 0, none⟩) s.n cap) (hp : p < s.n) (b : Nat) :
    GAt S (w.setCell ⟨g, p * 5 + 3, none⟩ (.int .i64 (b : Int))) t { s with gr := put1 s.gr p b } s.n s.n V tag :=
  h.setNode hv (p := p) (c := 3) hp (by omega) (.int .i64 (b : Int)) { s with gr := put1 s.gr p b } rfl rfl (by show Value.int .i64 (((put1 s.gr p b p : Nat) : Int)) = _; rw [put1_self]) (fun q d hd hne => by
    by_cases e : d = 3
    · subst e
      have hq : q ≠ p := by omega
      show Value.int .i64 ((put1 s.gr p b q : Nat) : Int) = .int .i64 ((s.gr q : Nat) : Int)
      rw [put1_ne _ _ hq]
    · have hd' : d = 0 ∨ d = 1 ∨ d = 2 ∨ d = 4 := by omega
      rcases hd' with rfl | rfl | rfl | rfl <;> rfl)

theorem GAt.setWt (h : GAt S w t s s.n s.n V tag) (hv : V .nodes = .slice (some ⟨g, 0, none⟩) s.n cap) (hp : p < s.n) (b : Nat) :
    GAt S (w.setCell ⟨g, p * 5 + 4, none⟩ (.int .i64 (b : Int))) t { s with wt := put1 s.wt p b } s.n s.n V tag :=
  h.setNode hv (p := p) (c := 4) hp (by omega) (.int .i64 (b : Int)) { s with wt := put1 s.wt p b } rfl rfl (by show Value.int .i64 (((put1 s.wt p b p : Nat) : Int)) = _; rw [put1_self]) (fun q d hd hne => by
    by_cases e : d = 4
    · subst e
      have hq : q ≠ p := by omega
      show Value.int .i64 ((put1 s.wt p b q : Nat) : Int) = .int .i64 ((s.wt q : Nat) : Int)
      rw [put1_ne _ _ hq]
    · have hd' : d = 0 ∨ d = 1 ∨ d = 2 ∨ d = 3 := by omega
      rcases hd' with rfl | rfl | rfl | rfl <;> rfl)

theorem others_eval : ∀ n : Nat, n < 5 → ∀ p : Nat, p < n → bits BinOp.andNot IntKind.i64 (IntKind.i64.wrap (IntKind.i64.wrap (2 ^ n) - 1)) (IntKind.i64.wrap (2 ^ p)) = (othersN n p : Int) := by decide +kernel
theorem has_eval : ∀ x : Nat, x < 16 → ∀ i : Nat, i < 4 → (bits BinOp.and IntKind.i64 ((x : Int) / 2 ^ i) 1 == 1) = bitB x i := by decide +kernel
theorem or_eval : ∀ x : Nat, x < 16 → ∀ i : Nat, i < 4 → bits BinOp.or IntKind.i64 (x : Int) (IntKind.i64.wrap (2 ^ i)) = ((x ||| 2 ^ i : Nat) : Int) := by decide +kernel

/-- A node's fields. -/
theorem GAt.fields (h : GAt S w t s s.n s.n V tag) (hv : V .nodes = .slice (some ⟨g, 0, none⟩) s.n cap) (hp : p < s.n) :
    w.cell? ⟨g, p * 5, none⟩ = some (.int .i64 (s.st p)) ∧ w.cell? ⟨g, p * 5 + 1, none⟩ = some (.int .i64 (s.ck p)) ∧ w.cell? ⟨g, p * 5 + 2, none⟩ = some (.int .i64 (s.tm p)) ∧ w.cell? ⟨g, p * 5 + 3, none⟩ = some (.int .i64 (s.gr p)) ∧ w.cell? ⟨g, p * 5 + 4, none⟩ = some (.int .i64 (s.wt p)) := by
  obtain ⟨hcell, _⟩ := h.nodeAt hv
  exact ⟨hcell p 0 hp (by omega), hcell p 1 hp (by omega), hcell p 2 hp (by omega), hcell p 3 hp (by omega), hcell p 4 hp (by omega)⟩
end

set_option maxHeartbeats 1000000 in
theorem others_any (S : Nat → Prop) (w : World) (t g : Nat) (s : GNet) (h : GIn S w t g s) (h4 : s.n ≤ 4) (p : Nat) (hp : p < s.n) :
    Calls Tryd.prog 35 #[.pointer (some ⟨t, 0, none⟩), .int .i64 p] w fun e w' => e = .returned (.int .i64 (othersN s.n p)) ∧ Chg NoF w w' := by
  obtain ⟨V, tag, ⟨cN, vN⟩, h⟩ := h
  have c0 := h.top0
  rw [vN] at c0
  obtain ⟨n, hN⟩ : ∃ n, Hid (s.n = n) := ⟨_, Lib.hid rfl⟩
  rw [hN.out] at c0 hp h4 ⊢
  have hp1 : (p : Int) < n := by omega
  clear h vN
  go_enter Tryd.func35, Tryd.ntmps35
  go_wp2_with fail
  refine wp_region_plan (Chg NoF _) 11 [(0,true),(1,true),(2,true),(3,true),(4,true),(5,true),(6,true),(7,true),(8,true),(9,true),(10,true)] mixed (by kernel_rfl) (Chg.refl _ _).drew ?_
  simp only [planOps, List.map_cons, List.map_nil, List.getElem?_cons_zero, List.getElem?_cons_succ, Option.getD_some]
  generalize hops : List.toArray _ = ops
  iterate 11 (refine wpPlan_quiet (v := ?_) rfl (fun _ _ _ h => h) (by intro w1 hS; have s0 := hS.cell_some c0 (fun h => h); clear hS; go_simp; with_reducible rfl) ?_; (simp only [Act.put, List.setIfInBounds_toArray, List.set_cons_zero, List.set_cons_succ]))
  clear hops
  refine wpPlan_nil ?_
  go_wp2
  go_ret
  refine ⟨?_, (Chg.refl _ _).drew⟩
  rw [← others_eval n (by omega) p hp]; rfl

set_option maxHeartbeats 400000 in
theorem has_any (x i : Nat) (hx : x < 16) (hi : i < 4) (w : World) :
    Calls Tryd.prog 27 #[.int .i64 x, .int .i64 i] w fun e w' => e = .returned (.bool (bitB x i)) ∧ w = w' := by
  go_enter Tryd.func27, Tryd.ntmps27
  go_wp2
  go_ret
  refine ⟨?_, rfl⟩
  rw [← has_eval x hx i hi]; rfl

set_option maxHeartbeats 400000 in
theorem hands_any (n : Int) (w : World) :
    Calls Tryd.prog 17 #[.int .i64 n] w fun e w' => e = .returned (errV (if inB n 1 4 = true then 0 else 1)) ∧ w = w' := by
  cases hin : inB n 1 4
  all_goals
    go_enter Tryd.func17, Tryd.ntmps17
    go_wp2_with fail
    refine (within_any _ _ _ _).mono ?_
    rintro e w' ⟨rfl, rfl⟩
    rw [hin]
    go_wp2
    go_ret
    exact ⟨rfl, rfl⟩

theorem sub16 {n x : Nat} (h4 : n ≤ 4) (h : x < 2 ^ n) : x < 16 := by
  have := Nat.pow_le_pow_right (n := 2) (by omega) h4
  omega

set_option maxHeartbeats 1000000 in
set_option maxRecDepth 100000 in
theorem enter_any (S : Nat → Prop) (w : World) (t g : Nat) (s : GNet) (h : GIn S w t g s) (h4 : s.n ≤ 4) (p : Nat) (hp : p < s.n) :
    Calls Tryd.prog 25 #[.pointer (some ⟨t, 0, none⟩), .int .i64 p] w (DonePost S w t g (s.enter p)) := by
  have HIN := Lib.hid h
  obtain ⟨V, tag, ⟨cN, vN⟩, h⟩ := h
  obtain ⟨d0, d1, d2, d3, d4⟩ := h.fields vN hp
  obtain ⟨_, hfr, htN, hSg, c0⟩ := h.nodeAt vN
  have g0 : w.frozen? ⟨g, p * 5, none⟩ = false := hfr _
  have HOT := Lib.hid (others_any S w.drew t g s (HIN.out.keep ((Chg.refl NoF w).drew)) h4 p hp)
  have HSET := Lib.hid (fun (w1 : World) (hc : Chg NoF w w1) => GAt.setSt (Mem.more h hc) vN hp 2)
  have VN := Lib.hid vN
  have HSG := Lib.hid hSg
  obtain ⟨st, hST⟩ : ∃ x, Hid (s.st p = x) := ⟨_, Lib.hid rfl⟩
  obtain ⟨gr, hGR⟩ : ∃ x, Hid (s.gr p = x) := ⟨_, Lib.hid rfl⟩
  obtain ⟨ot, hOT⟩ : ∃ x, Hid (othersN s.n p = x) := ⟨_, Lib.hid rfl⟩
  obtain ⟨n, hN⟩ : ∃ n, Hid (s.n = n) := ⟨_, Lib.hid rfl⟩
  rw [hST.out] at d0
  rw [hGR.out] at d3
  rw [hOT.out] at HOT
  rw [hN.out] at c0 hp h4
  have hp1 : (p : Int) < n := by omega
  have htg : ¬ t = g := fun e => htN e.symm
  clear hfr h vN hSg d1 d2 d4
  by_cases h1 : st = 1
  · have hb : (st == 1) = true := by rw [h1]; rfl
    clear h1
    by_cases hg : gr = ot
    · have hE : Hid (s.enter p = { s with st := put1 s.st p 2 }) := Lib.hid (by
        unfold GNet.enter; rw [if_pos ⟨by rw [hST.out]; simpa using hb, by rw [hGR.out, hOT.out]; exact hg⟩])
      have hbb : ((gr : Int) == (ot : Int)) = true := by rw [hg]; simp
      clear hg
      go_enter Tryd.func25, Tryd.ntmps25
      go_wp2_with fail
      refine wp_region_plan (Chg NoF w) 15 [(0,true),(1,true),(2,true),(3,true),(4,true),(5,true),(6,true),(7,true),(8,true),(9,true),(10,true),(11,true),(12,false),(13,true),(14,true)] mixed (by kernel_rfl) (Chg.refl _ _).drew ?_
      simp only [planOps, List.map_cons, List.map_nil, List.getElem?_cons_zero, List.getElem?_cons_succ, Option.getD_some]
      generalize hops : List.toArray _ = ops
      iterate 6 (refine wpPlan_quiet (v := ?_) rfl (fun _ _ _ h => h) (by intro w1 hS; have s0 := hS.cell_some d0 (fun h => h); clear hS; go_simp; with_reducible rfl) ?_; (simp only [Act.put, List.setIfInBounds_toArray, List.set_cons_zero, List.set_cons_succ]))
      iterate 6 (refine wpPlan_quietG (v := ?_) (by rw [← hops]; rfl) (fun _ _ _ h => h) (by intro w1 hS; have s0 := hS.cell_some d3 (fun h => h); clear hS; go_simp; with_reducible rfl) ?_; (simp only [Act.put, List.setIfInBounds_toArray, List.set_cons_zero, List.set_cons_succ]))
      refine wpPlan_loudG (by rw [← hops]; rfl) (fun K hK => ?_)
      go_simp
      refine HOT.out.mono ?_
      rintro e w1 ⟨rfl, hcc⟩
      have hc1 : Chg NoF w w1 := ((Chg.refl NoF w).drew).trans hcc
      refine hK _ _ (fun _ => hc1) ?_
      clear hK K
      (try simp only [Act.put, List.setIfInBounds_toArray, List.set_cons_zero, List.set_cons_succ])
      (refine wpPlan_quietG (v := ?_) (by rw [← hops]; rfl) (fun _ _ _ h => h) (by intro w1 hS; clear hS; go_simp; with_reducible rfl) ?_; (simp only [Act.put, List.setIfInBounds_toArray, List.set_cons_zero, List.set_cons_succ]))
      (refine wpPlan_quiet (v := ?_) rfl (fun _ _ _ h => h) (by intro w1 hS; clear hS; go_simp; with_reducible rfl) ?_; (simp only [Act.put, List.setIfInBounds_toArray, List.set_cons_zero, List.set_cons_succ]))
      clear hops
      refine wpPlan_nil ?_
      have e0 := hc1.cell_some d0 (fun h => h)
      have g1 : w1.frozen? ⟨g, p * 5, none⟩ = false := by rw [World.frozen?_of_block (hc1.block g (World.block_lt_of_cell? w _ d0) (fun h => h))]; exact g0
      have HS := Lib.hid (HSET.out w1 hc1)
      have HC : Hid (Chg (fun k => ¬ S k) w (w1.setCell ⟨g, p * 5, none⟩ (.int .i64 2))) := Lib.hid (hc1.ofNo.setCell (.inl HSG.out) _)
      clear hc1 hcc d0 g0 d3 c0 HOT HSET
      go_wp2
      go_end0
      exact ⟨rfl, by rw [hE.out]; exact ⟨V, tag, ⟨cN, VN.out⟩, HS.out⟩, HC.out⟩
    · have hE : Hid (s.enter p = s) := Lib.hid (by
        unfold GNet.enter; rw [if_neg (fun hh => hg (by rw [← hGR.out, ← hOT.out]; exact hh.2))])
      have hbb : ((gr : Int) == (ot : Int)) = false := by rw [beq_eq_false_iff_ne]; omega
      clear hg
      go_enter Tryd.func25, Tryd.ntmps25
      go_wp2_with fail
      refine wp_region_plan (Chg NoF w) 15 [(0,true),(1,true),(2,true),(3,true),(4,true),(5,true),(6,true),(7,true),(8,true),(9,true),(10,true),(11,true),(12,false),(13,true),(14,true)] mixed (by kernel_rfl) (Chg.refl _ _).drew ?_
      simp only [planOps, List.map_cons, List.map_nil, List.getElem?_cons_zero, List.getElem?_cons_succ, Option.getD_some]
      generalize hops : List.toArray _ = ops
      iterate 6 (refine wpPlan_quiet (v := ?_) rfl (fun _ _ _ h => h) (by intro w1 hS; have s0 := hS.cell_some d0 (fun h => h); clear hS; go_simp; with_reducible rfl) ?_; (simp only [Act.put, List.setIfInBounds_toArray, List.set_cons_zero, List.set_cons_succ]))
      iterate 6 (refine wpPlan_quietG (v := ?_) (by rw [← hops]; rfl) (fun _ _ _ h => h) (by intro w1 hS; have s0 := hS.cell_some d3 (fun h => h); clear hS; go_simp; with_reducible rfl) ?_; (simp only [Act.put, List.setIfInBounds_toArray, List.set_cons_zero, List.set_cons_succ]))
      refine wpPlan_loudG (by rw [← hops]; rfl) (fun K hK => ?_)
      go_simp
      refine HOT.out.mono ?_
      rintro e w1 ⟨rfl, hcc⟩
      have hc1 : Chg NoF w w1 := ((Chg.refl NoF w).drew).trans hcc
      refine hK _ _ (fun _ => hc1) ?_
      clear hK K
      (try simp only [Act.put, List.setIfInBounds_toArray, List.set_cons_zero, List.set_cons_succ])
      (refine wpPlan_quietG (v := ?_) (by rw [← hops]; rfl) (fun _ _ _ h => h) (by intro w1 hS; clear hS; go_simp; with_reducible rfl) ?_; (simp only [Act.put, List.setIfInBounds_toArray, List.set_cons_zero, List.set_cons_succ]))
      (refine wpPlan_quiet (v := ?_) rfl (fun _ _ _ h => h) (by intro w1 hS; clear hS; go_simp; with_reducible rfl) ?_; (simp only [Act.put, List.setIfInBounds_toArray, List.set_cons_zero, List.set_cons_succ]))
      clear hops
      refine wpPlan_nil ?_
      have HC1 := Lib.hid hc1
      clear hc1 hcc d0 g0 d3 c0 HOT HSET
      go_wp2
      go_end0
      exact ⟨rfl, by rw [hE.out]; exact HIN.out.keep HC1.out, HC1.out.ofNo⟩
  · have hb : (st == 1) = false := by rw [beq_eq_false_iff_ne]; exact h1
    have hE : Hid (s.enter p = s) := Lib.hid (by
      unfold GNet.enter; rw [if_neg (fun hh => h1 (by rw [← hST.out]; exact hh.1))])
    clear h1
    go_enter Tryd.func25, Tryd.ntmps25
    go_wp2_with fail
    refine wp_region_plan (Chg NoF w) 15 [(0,true),(1,true),(2,true),(3,true),(4,true),(5,true),(6,true),(7,true),(8,true),(9,true),(10,true),(11,true),(12,true),(13,true),(14,true)] mixed (by kernel_rfl) (Chg.refl _ _).drew ?_
    simp only [planOps, List.map_cons, List.map_nil, List.getElem?_cons_zero, List.getElem?_cons_succ, Option.getD_some]
    generalize hops : List.toArray _ = ops
    iterate 6 (refine wpPlan_quiet (v := ?_) rfl (fun _ _ _ h => h) (by intro w1 hS; have s0 := hS.cell_some d0 (fun h => h); clear hS; go_simp; with_reducible rfl) ?_; (simp only [Act.put, List.setIfInBounds_toArray, List.set_cons_zero, List.set_cons_succ]))
    iterate 8 (refine wpPlan_skip (by rw [← hops]; rfl) (fun _ _ _ h => h) ?_; (simp only [Act.put, List.setIfInBounds_toArray, List.set_cons_zero, List.set_cons_succ]))
    (refine wpPlan_quiet (v := ?_) rfl (fun _ _ _ h => h) (by intro w1 hS; clear hS; go_simp; with_reducible rfl) ?_; (simp only [Act.put, List.setIfInBounds_toArray, List.set_cons_zero, List.set_cons_succ]))
    clear hops
    refine wpPlan_nil ?_
    go_wp2
    go_end0
    exact ⟨rfl, by rw [hE.out]; exact HIN.out.keep ((Chg.refl NoF w).drew), (Chg.refl _ w).drew⟩

end Go.Proofs.YtmkjfiopkmcjcaaDoor
