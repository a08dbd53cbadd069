/-
  What the document's answer does to lists: one more, one place changed, one row changed, is a number among them.
  Conditions: the lists are read, and are shorter than 100000.
-/
import Derived.Test.YtckgkgaoioigdaaDoorAdopt
import Derived.Test.YtckgkgaoioigdaaDoorIntss
import Derived.Test.YtckgkgaoioigdaaDoorSame
namespace Go.Proofs.YtckgkgaoioigdaaDoor
open Go Go.RowKit


/-- What is told by the answer: a value that reads as l, nothing old changed. -/
def RefP (S : Nat → Prop) (w : World) (l : List Int) (v : Value) (w' : World) : Prop := Rd (More S w) w' v l ∧ Chg NoF w w'

/-- The cells that are read, as a list. -/
theorem Rd.cells {S : Nat → Prop} {w : World} {v : Value} {l : List Int} (h : Rd S w v l) :
    ∃ a c, v = .slice a l.length c ∧ (l = [] ∨ ∃ b off, a = some ⟨b, off, none⟩ ∧ ∀ j u, (l.map (Value.int .i64))[j]? = some u → w.cell? ⟨b, off + j, none⟩ = some u) := by
  obtain ⟨a, c, rfl, h⟩ := h
  refine ⟨a, c, rfl, ?_⟩
  rcases h with h | ⟨b, off, ha, _, _, hc⟩
  · exact .inl h
  · refine .inr ⟨b, off, ha, fun j u hj => ?_⟩
    have hjn : j < l.length := by have := (List.getElem?_eq_some_iff.1 hj).1; simpa using this
    rw [hc j hjn, ← hj]
    simp [List.getD, hjn]

set_option maxHeartbeats 2000000 in
set_option maxRecDepth 100000 in
theorem more_any (S : Nat → Prop) (v : Value) (l : List Int) (x : Int) (w : World) (hr : Rd S w v l) (hb : l.length < 100000) :
    Calls Tryd.prog 19 #[v, .int .i64 x] w fun e w' => ∃ v', e = .returned v' ∧ w'.ownsRow w.heap.size 3 1 v' (l.length + 1) ((l ++ [x]).map (.int .i64)) ∧ Chg NoF w w' := by
  obtain ⟨i0, hi, hz0, hz1, hz2⟩ := info_parts infoInt
  obtain ⟨a, c, rfl, hcl⟩ := hr.cells
  obtain ⟨n, hN⟩ : ∃ n, Hid (l.length = n) := ⟨_, Lib.hid rfl⟩
  obtain ⟨vs, hV⟩ : ∃ vs : List Value, Hid (l.map (Value.int .i64) = vs) := ⟨_, Lib.hid rfl⟩
  have HL : Hid (vs.length = n) := Lib.hid (by rw [← hV.out, ← hN.out]; simp)
  have HO : Hid (∀ u ∈ vs, u.oneCell' = true) := Lib.hid (by rw [← hV.out]; intro u hu; obtain ⟨x, _, rfl⟩ := List.mem_map.1 hu; rfl)
  have HE : Hid ((l ++ [x]).map (Value.int .i64) = vs ++ [.int .i64 x]) := Lib.hid (by rw [List.map_append, hV.out]; rfl)
  rw [HE.out]
  rw [hN.out] at hb ⊢
  rw [hV.out] at hcl
  have HR := Lib.hid hcl
  clear hr hcl
  cases a with
  | none =>
    have h0 : l = [] := by
      rcases HR.out with h | ⟨b, off, ha, _⟩
      · exact h
      · cases ha
    subst h0
    obtain rfl : 0 = n := hN.out
    obtain rfl : vs = [] := by rw [← hV.out]; rfl
    clear hb HR HE
    go_enter Tryd.func19, Tryd.ntmps19
    go_wp2_with (at_builtin; refine wpList_append_lies _ rfl _ _ 22 rfl w.heap.size 3 i0 (.int .i64 0) 1 8 Tryd.underlying22 hi hz0 hz1 hz2 rfl (by decide) (.slice none 0 0) 0 [] rfl (World.ownsRow_nil _ _ _ _) ⟨w.heap.size, 0, none⟩ 1 1 [.int .i64 x] rfl rfl (World.news_of_block (cs := #[.int .i64 x]) (t := 3) (fr := (0, 0)) (heap_alloc_new w _)) (by simp [Value.oneCell']) (by omega) (by unfold maxLen; omega) (by omega) (by simp) _ rfl ?_; intro g cap w1 hown hgrow hat hlt; have HW := Lib.hid hown; have HGW := Lib.hid hgrow; clear hown hgrow hat)
    go_wp2
    go_ret
    exact ⟨_, rfl, HW.out, ((Chg.refl _ w).alloc _).grown HGW.out (fun k hk => by simp [Value.ownBlock] at hk)⟩
  | some y =>
    obtain ⟨b, off, sp⟩ := y
    go_enter Tryd.func19, Tryd.ntmps19
    go_wp2_with (at_builtin; refine wpList_append_own _ rfl _ _ 22 rfl w.heap.size 3 i0 (.int .i64 0) 1 8 Tryd.underlying22 hi hz0 hz1 hz2 rfl (by decide) (.slice none 0 0) 0 [] rfl (World.ownsRow_nil _ _ _ _) ⟨b, off, sp⟩ n c vs rfl ?qc1 ?qc2 ?qc3 ?qc4 ?qc5 ?qc6 ?_)
    case qc1 => rw [HL.out]; simp
    case qc2 =>
      intro j u hj
      rcases HR.out with h | ⟨b', off', ha, hc⟩
      · subst h
        have : vs = [] := by rw [← hV.out]; rfl
        subst this
        simp at hj
      · simp only [Option.some.injEq] at ha
        rw [ha, Addr.add_lit]
        exact hc j u hj
    case qc3 => exact HO.out
    case qc4 => unfold maxLen; omega
    case qc5 => omega
    case qc6 => simp
    intro v' w1 hown hgrow hnil
    have HGE : Hid (∀ k, v'.ownBlock = some k → w.heap.size ≤ k) := Lib.hid fun k hk => (hown.lt k hk).1
    obtain ⟨va, vc, rfl⟩ := owns_val hown
    have HC1 : Hid (Chg NoF w w1) := Lib.hid ((Chg.refl _ w).grown hgrow (fun k hk => by simp [Value.ownBlock] at hk))
    have hsz := HC1.out.size
    clear hgrow hnil HR
    go_wp2_with (at_builtin; refine wpList_append_lies _ rfl _ _ 22 rfl w.heap.size 3 i0 (.int .i64 0) 1 8 Tryd.underlying22 hi hz0 hz1 hz2 rfl (by decide) (.slice va n vc) n vs rfl (((Chg.refl NoF w1).alloc _).row hown (fun _ _ h => h)) ⟨w1.heap.size, 0, none⟩ 1 1 [.int .i64 x] rfl rfl (World.news_of_block (cs := #[.int .i64 x]) (t := 3) (fr := (0, 0)) (heap_alloc_new w1 _)) (by simp [Value.oneCell']) (by omega) (by unfold maxLen; omega) (by omega) (by simp; omega) _ rfl ?_; intro g cap w2 hown2 hgrow hat hlt; have HW := Lib.hid hown2; have HGW := Lib.hid hgrow; clear hown2 hgrow hat)
    go_wp2
    go_ret
    exact ⟨_, rfl, HW.out, (HC1.out.alloc _).grown HGW.out (fun k hk => .inr (HGE.out k hk))⟩

theorem more_ref (S : Nat → Prop) (v : Value) (l : List Int) (x : Int) (w : World) (hr : Rd S w v l) (hb : l.length < 100000) :
    Calls Tryd.prog 19 #[v, .int .i64 x] w fun e w' => ∃ v', e = .returned v' ∧ RefP S w (l ++ [x]) v' w' := by
  refine (more_any S v l x w hr hb).mono ?_
  rintro e w' ⟨v', rfl, hown, hc⟩
  exact ⟨v', rfl, Rd.ofOwns (n := l.length + 1) hown (fun b hb => .inr (hown.lt b hb).1), hc⟩

set_option maxHeartbeats 1000000 in
set_option maxRecDepth 100000 in
theorem set_ref (S : Nat → Prop) (v : Value) (l : List Int) (i : Nat) (x : Int) (w : World) (hr : Rd S w v l) (hi : i < l.length) (hn : l.length ≤ 1000) :
    Calls Tryd.prog 27 #[v, .int .i64 i, .int .i64 x] w fun e w' => ∃ v', e = .returned v' ∧ RefP S w (l.set i x) v' w' := by
  obtain ⟨i0, hi0, hz0, hz1, hz2⟩ := info_parts infoInt
  obtain ⟨b, off, c, rfl, _, hc⟩ := hr.form (by omega)
  have HC : Hid (∀ j u, (l.map (Value.int .i64))[j]? = some u → w.cell? (Addr.add ⟨b, off, none⟩ j) = some u) := Lib.hid fun j u hj => by
    have hjn : j < l.length := by have := (List.getElem?_eq_some_iff.1 hj).1; simpa using this
    rw [Addr.add_lit, hc j hjn, ← hj]
    simp [List.getD, hjn]
  obtain ⟨n, hN⟩ : ∃ n, Hid (l.length = n) := ⟨_, Lib.hid rfl⟩
  obtain ⟨vs, hV⟩ : ∃ vs : List Value, Hid (l.map (Value.int .i64) = vs) := ⟨_, Lib.hid rfl⟩
  have HL : Hid (vs.length = n) := Lib.hid (by rw [← hV.out, ← hN.out]; simp)
  have HO : Hid (∀ u ∈ vs, u.oneCell' = true) := Lib.hid (by rw [← hV.out]; intro u hu; obtain ⟨x, _, rfl⟩ := List.mem_map.1 hu; rfl)
  rw [hV.out] at HC
  rw [hN.out] at hi hn
  rw [hN.out]
  clear hr hc
  have HI := Lib.hid hi
  have hin : (i : Int) < n := by omega
  obtain ⟨y, hY⟩ : ∃ y, Hid (l.getD i 0 = y) := ⟨_, Lib.hid rfl⟩
  have HCELL : Hid (∀ (g cap : Nat) (w1 : World), w1.ownsRow w.heap.size 3 1 (.slice (some ⟨g, 0, none⟩) (0 + n) cap) (0 + n) ([] ++ vs) → w1.cell? ⟨g, i, none⟩ = some (.int .i64 y) ∧ w1.frozen? ⟨g, i, none⟩ = false) := Lib.hid fun g cap w1 hown => by
    have hrow := owns_zero hown
    rw [Nat.zero_add, List.nil_append] at hrow
    refine ⟨?_, hrow.frozenAt i⟩
    rw [hrow.cellAt i (by rw [Nat.mul_one]; exact HI.out), ← hV.out, ← hY.out]
    simp [List.getD, hN.out, HI.out]
  go_enter Tryd.func27, Tryd.ntmps27
  go_wp2_with (at_builtin; refine wpList_append_lies _ rfl _ _ 22 rfl w.heap.size 3 i0 (.int .i64 0) 1 8 Tryd.underlying22 hi0 hz0 hz1 hz2 rfl (by decide) (.slice none 0 0) 0 [] rfl (World.ownsRow_nil _ _ _ _) ⟨b, off, none⟩ n c vs rfl (by rw [HL.out]; simp) HC.out HO.out (by omega) (by unfold maxLen; omega) (by omega) (Nat.le_refl _) _ rfl ?_; intro g cap w1 hown hgrow hat hlt; obtain ⟨c0, f0⟩ := HCELL.out g cap w1 hown; have HW := Lib.hid hown; have HGW := Lib.hid hgrow; have HAT := Lib.hid hat; clear hown hgrow hat)
  have HC1 : Hid (Chg NoF w w1) := Lib.hid ((Chg.refl _ w).grown HGW.out (fun k hk => by simp [Value.ownBlock] at hk))
  have HGE : Hid (w.heap.size ≤ g) := Lib.hid (by
    rcases HAT.out with h | h
    · simp [Value.ownBlock] at h
    · omega)
  try go_wp2
  go_ret
  refine ⟨_, rfl, ?_, HC1.out.setCell (.inr HGE.out) _⟩
  refine Rd.ofOwns (e := 3) (base := 0) (n := n) ?_ (fun k hk => .inr ?_)
  · have hrow := owns_zero HW.out
    rw [Nat.zero_add, List.nil_append] at hrow
    have := (hrow.stored i (.int .i64 x)).1
    rw [List.map_set, hV.out]
    exact this
  · obtain rfl : g = k := by simpa [Value.ownBlock] using hk
    exact HGE.out

/-- What is told by the answer: rows. -/
def RefP2 (S : Nat → Prop) (w : World) (ll : List (List Int)) (v : Value) (w' : World) : Prop := Rd2 (More S w) w' v ll ∧ Chg NoF w w'

theorem Rd2.keep {S F : Nat → Prop} {w w' : World} {v : Value} {ll : List (List Int)} (h : Rd2 S w v ll) (hc : Chg F w w') (hn : ∀ b, S b → ¬ F b) : Rd2 S w' v ll := by
  obtain ⟨a, c, rfl, h⟩ := h
  refine ⟨a, c, rfl, ?_⟩
  rcases h with h | ⟨b, off, ha, hS, hcap, hcell⟩
  · exact .inl h
  · refine .inr ⟨b, off, ha, hS, hcap, fun j hj => ?_⟩
    obtain ⟨u, h1, h2, h3⟩ := hcell j hj
    exact ⟨u, hc.cell_some h1 (hn b hS), h2.keep hc hn, h3⟩

theorem Rd2.mono {S S' : Nat → Prop} {w : World} {v : Value} {ll : List (List Int)} (h : Rd2 S w v ll) (hS : ∀ b, b < w.heap.size → S b → S' b) : Rd2 S' w v ll := by
  obtain ⟨a, c, rfl, h⟩ := h
  refine ⟨a, c, rfl, ?_⟩
  rcases h with h | ⟨b, off, ha, hb, hcap, hcell⟩
  · exact .inl h
  · by_cases h0 : ll.length = 0
    · exact .inl (List.eq_nil_of_length_eq_zero h0)
    · have hlt : b < w.heap.size := by
        obtain ⟨u, h1, _⟩ := hcell 0 (by omega)
        exact World.block_lt_of_cell? w _ h1
      refine .inr ⟨b, off, ha, hS b hlt hb, hcap, fun j hj => ?_⟩
      obtain ⟨u, h1, h2, h3⟩ := hcell j hj
      exact ⟨u, h1, h2.mono hS, h3⟩

/-- The cells that are read, as a list of values. -/
theorem Rd2.cells {S : Nat → Prop} {w : World} {v : Value} {ll : List (List Int)} (h : Rd2 S w v ll) :
    ∃ (a : Option Addr) (c : Nat) (vs : List Value), v = .slice a ll.length c ∧ vs.length = ll.length ∧ (∀ u ∈ vs, u.oneCell' = true) ∧ (∀ j, j < ll.length → ∃ u, vs[j]? = some u ∧ Rd S w u (ll.getD j []) ∧ (ll.getD j []).length ≤ 9223372036854775807) ∧
      (ll = [] ∨ ∃ b off, a = some ⟨b, off, none⟩ ∧ ∀ j u, vs[j]? = some u → w.cell? ⟨b, off + j, none⟩ = some u) := by
  obtain ⟨a, c, rfl, h⟩ := h
  rcases h with rfl | ⟨b, off, ha, hS, _, hc⟩
  · exact ⟨a, c, [], rfl, rfl, fun u hu => by simp at hu, fun j hj => by simp at hj, .inl rfl⟩
  · have hsome : ∀ j, j < ll.length → ∃ u, w.cell? ⟨b, off + j, none⟩ = some u := fun j hj => by
      obtain ⟨u, h1, _⟩ := hc j hj; exact ⟨u, h1⟩
    refine ⟨a, c, (List.range ll.length).map fun j => (w.cell? ⟨b, off + j, none⟩).getD default, rfl, by simp, fun u hu => ?_, fun j hj => ?_, .inr ⟨b, off, ha, fun j u hj => ?_⟩⟩
    · obtain ⟨j, hj, rfl⟩ := List.mem_map.1 hu
      rw [List.mem_range] at hj
      obtain ⟨u, h1, ⟨a1, c1, rfl, _⟩, _⟩ := hc j hj
      rw [h1]; rfl
    · obtain ⟨u, h1, h2, h3⟩ := hc j hj
      exact ⟨u, by simp [hj, h1], h2, h3⟩
    · have hjn : j < ll.length := by have := (List.getElem?_eq_some_iff.1 hj).1; simpa using this
      obtain ⟨u', h1⟩ := hsome j hjn
      rw [h1]
      simp [hjn, h1] at hj
      rw [hj]

/-- What is owned, and holds what is read. -/
theorem Rd2.ofOwns {S : Nat → Prop} {w : World} {e base n : Nat} {v : Value} {vs : List Value} {ll : List (List Int)} (h : w.ownsRow base e 1 v n vs) (hl : ll.length = n) (hS : ∀ b, v.ownBlock = some b → S b)
    (hv : ∀ j, j < ll.length → ∃ u, vs[j]? = some u ∧ Rd S w u (ll.getD j []) ∧ (ll.getD j []).length ≤ 9223372036854775807) : Rd2 S w v ll := by
  rcases h.2 with ⟨rfl, h0⟩ | ⟨g, cap, cur, rfl, hb, hg, hcap, hr⟩
  · have : ll = [] := List.eq_nil_of_length_eq_zero (by omega)
    subst this; exact Rd2.nil _ _
  · subst hl
    refine ⟨_, cap, rfl, .inr ⟨g, 0, rfl, hS g rfl, hcap, fun j hj => ?_⟩⟩
    obtain ⟨u, h1, h2⟩ := hv j hj
    have := h.cellAt j (by omega)
    rw [Nat.zero_add, this]
    exact ⟨u, h1, h2⟩


set_option maxHeartbeats 1000000 in
theorem has_ref (S : Nat → Prop) (v : Value) (l : List Int) (x : Int) (w : World) (hr : Rd S w v l) (hb : l.length < 100000) :
    Calls Tryd.prog 18 #[v, .int .i64 x] w fun e w' => e = .returned (.bool (l.contains x)) ∧ w = w' := by
  have HR := Lib.hid hr
  obtain ⟨a, c, rfl⟩ := hr.val
  obtain ⟨n, hN⟩ : ∃ n, Hid (l.length = n) := ⟨_, Lib.hid rfl⟩
  rw [hN.out] at HR hb ⊢
  obtain ⟨r, HQ⟩ : ∃ r, Hid (l.contains x = r) := ⟨_, Lib.hid rfl⟩
  rw [HQ.out]
  clear hr
  go_enter Tryd.func18, Tryd.ntmps18
  go_wp2
  go_loop [5] (fun i => ∃ k : Nat, k ≤ n ∧ i = .int .i64 k ∧ Hid (∀ j, j < k → l.getD j 0 ≠ x)) (fun i => n - (intOf i).toNat)
  case atStart => exact ⟨0, Nat.zero_le _, rfl, Lib.hid fun j hj => absurd hj (Nat.not_lt_zero _)⟩
  case round =>
    obtain ⟨k, hkn, rfl, HK⟩ := hrel
    by_cases hlt : k < n
    · have h1 : (k : Int) < n := by omega
      obtain ⟨b, off, c', ev, _, hc⟩ := HR.out.form (by rw [hN.out]; omega)
      rw [hN.out] at hc ev
      simp only [Value.slice.injEq] at ev
      obtain ⟨rfl, -, rfl⟩ := ev
      have d0 := hc k hlt
      obtain ⟨y, HY⟩ : ∃ y, Hid (l.getD k 0 = y) := ⟨_, Lib.hid rfl⟩
      rw [HY.out] at d0
      clear hc
      by_cases e : y = x
      · have hb2 : (y == x) = true := by rw [e]; simp
        have HT : Hid (l.contains x = true) := Lib.hid (by
          rw [List.contains_iff_mem, ← e, ← HY.out]
          rw [List.getD, List.getElem?_eq_getElem (by rw [hN.out]; exact hlt)]
          exact List.getElem_mem _)
        clear e
        go_wp2
        go_ret
        exact ⟨by rw [← HQ.out, HT.out]; rfl, rfl⟩
      · have hb2 : (y == x) = false := by rw [beq_eq_false_iff_ne]; exact e
        have HK2 : Hid (∀ j, j < k + 1 → l.getD j 0 ≠ x) := Lib.hid fun j hj => by
          by_cases e2 : j = k
          · subst e2; rw [HY.out]; exact e
          · exact HK.out j (by omega)
        clear e
        go_wp2
        go_round
        case rel => exact ⟨k + 1, by omega, by go_num, HK2⟩
        case measure => simp [intOf]; omega
    · have h1 : ¬ (k : Int) < n := by omega
      have HT : Hid (l.contains x = false) := Lib.hid (by
        rw [← Bool.not_eq_true, List.contains_iff_mem]
        intro hm
        obtain ⟨j, hj, e⟩ := List.getElem_of_mem hm
        refine HK.out j (by rw [hN.out] at hj; omega) ?_
        rw [List.getD, List.getElem?_eq_getElem hj]; exact e)
      go_wp2
      go_ret
      exact ⟨by rw [← HQ.out, HT.out]; rfl, rfl⟩

end Go.Proofs.YtckgkgaoioigdaaDoor
