/-
  append to nothing of a slice of rows: a slice of the caller's own.
  Conditions: at most 1000 rows.
-/
import Derived.Test.YtbindapfjghnaaaDoorRef
import Derived.Test.YtbindapfjghnaaaDoorAgg
namespace Go.Proofs.YtbindapfjghnaaaDoor
open Go Go.RowKit

/-- An own slice whose elements read as rows. -/
def OwnRows (S : Nat → Prop) (w : World) (base : Nat) (v : Value) (ll : List (List Int)) : Prop :=
  ∃ vs, w.ownsRow base 29 1 v ll.length vs ∧ ∀ j, j < ll.length → ∃ u, vs[j]? = some u ∧ Rd S w u (ll.getD j []) ∧ (ll.getD j []).length ≤ 9223372036854775807

theorem wpList_appRd2 {S : Nat → Prop} {w : World} {ops : Array Oper} {rest : List Oper} {o : Oper} {a : Act} {Q : Exit → Act → World → Prop} (hgd : o.guard = none) (s x : Operand)
    (ho : o.op = .call { callee := .builtin .append, args := #[s, x], argTypes := #[22, 22] }) (hs : a.eval s = .slice none 0 0) (v : Value) (ll : List (List Int)) (hr : Rd2 S w v ll) (hx : a.eval x = v) (hn : ll.length ≤ 1000)
    (h : ∀ v' w', OwnRows (fun b => S b ∧ b < w.heap.size) w' w.heap.size v' ll → Chg NoF w w' → wpList Tryd.prog ops Q rest (a.put o.dst v') w') : wpList Tryd.prog ops Q (o :: rest) a w := by
  obtain ⟨i0, hi, hz0, hz1, hz2⟩ := info_parts infoRow
  obtain ⟨a0, c, vs, rfl, hvl, hone, hrows, hcell⟩ := hr.cells
  cases a0 with
  | none =>
    obtain rfl : ll = [] := by
      rcases hcell with h1 | ⟨b, off, h1, _⟩
      · exact h1
      · cases h1
    refine wpList_plain hgd fun K hK => ?_
    have hrun : ∀ ty w, (Builtin.append_ #[22, 22] ty #[.slice none 0 0, .slice none 0 c]).run Tryd.prog w = .ok (.slice none 0 0) w := fun ty w => by
      simp [Builtin.append_, run_underlying Tryd.underlying22, sizeOf, typeInfo, hi, Builtin.lenOf, Builtin.firstCells]
    unfold Oper.wp execOp
    simp only [ho, resolve, invoke, builtin, Sem.run_bind, Sem.run_pure, Result.andThen_ok, List.map_toArray, List.map_cons, List.map_nil, hs, hx, List.length_nil, hrun]
    exact hK _ _ (h _ _ ⟨[], World.ownsRow_nil _ _ _ _, fun j hj => absurd hj (Nat.not_lt_zero _)⟩ (Chg.refl _ _))
  | some y =>
    obtain ⟨b, off, sp⟩ := y
    refine wpList_append_own w hgd s x _ ho w.heap.size 29 i0 (.slice none 0 0) 1 24 Tryd.underlying22 hi hz0 hz1 hz2 rfl (by decide) (.slice none 0 0) 0 [] hs (World.ownsRow_nil _ _ _ _) ⟨b, off, sp⟩ ll.length c vs hx (by rw [hvl]; simp) (fun j u hj => ?_) hone (by unfold maxLen; omega) (by omega) (Nat.le_refl _) (fun v' w' hown hgrow _ => ?_)
    · rcases hcell with h1 | ⟨b', off', ha, hc⟩
      · subst h1
        have : vs = [] := List.eq_nil_of_length_eq_zero hvl
        subst this
        simp at hj
      · simp only [Option.some.injEq] at ha
        rw [ha, Addr.add_lit]
        exact hc j u hj
    · have hc : Chg NoF w w' := (Chg.refl _ w).grown hgrow (fun k hk => by simp [Value.ownBlock] at hk)
      rw [Nat.zero_add, List.nil_append] at hown
      refine h v' w' ⟨vs, hown, fun j hj => ?_⟩ hc
      obtain ⟨u, h1, h2, h3⟩ := hrows j hj
      exact ⟨u, h1, (h2.mono (S' := fun b => S b ∧ b < w.heap.size) (fun b hb hS => ⟨hS, hb⟩)).keep hc (fun _ _ h => h), h3⟩

theorem OwnRows.keep {S : Nat → Prop} {w w' : World} {base : Nat} {v : Value} {ll : List (List Int)} (h : OwnRows S w base v ll) (hc : Chg NoF w w') : OwnRows S w' base v ll := by
  obtain ⟨vs, h1, h2⟩ := h
  refine ⟨vs, hc.row h1 (fun _ _ h => h), fun j hj => ?_⟩
  obtain ⟨u, e, h3, h4⟩ := h2 j hj
  exact ⟨u, e, h3.keep hc (fun _ _ h => h), h4⟩

theorem OwnRows.mono {S S' : Nat → Prop} {w : World} {base : Nat} {v : Value} {ll : List (List Int)} (h : OwnRows S w base v ll) (hS : ∀ b, b < w.heap.size → S b → S' b) : OwnRows S' w base v ll := by
  obtain ⟨vs, h1, h2⟩ := h
  refine ⟨vs, h1, fun j hj => ?_⟩
  obtain ⟨u, e, h3, h4⟩ := h2 j hj
  exact ⟨u, e, h3.mono hS, h4⟩
theorem OwnRows.val {S : Nat → Prop} {w : World} {base : Nat} {v : Value} {ll : List (List Int)} (h : OwnRows S w base v ll) : ∃ a c, v = .slice a ll.length c := by
  obtain ⟨vs, h1, _⟩ := h
  exact owns_val h1
theorem OwnRows.lt {S : Nat → Prop} {w : World} {base : Nat} {v : Value} {ll : List (List Int)} (h : OwnRows S w base v ll) (b : Nat) (hb : v.ownBlock = some b) : base ≤ b ∧ b < w.heap.size := by
  obtain ⟨vs, h1, _⟩ := h
  exact h1.lt b hb

/-- One row more. -/
theorem wpList_addRow {S : Nat → Prop} {w : World} {ops : Array Oper} {rest : List Oper} {o : Oper} {a : Act} {Q : Exit → Act → World → Prop} (hgd : o.guard = none) (s x : Operand)
    (ho : o.op = .call { callee := .builtin .append, args := #[s, x], argTypes := #[22, 22] }) (base : Nat) (v : Value) (ll : List (List Int)) (hs : a.eval s = v) (hown : OwnRows S w base v ll) (hbs : base ≤ w.heap.size) (hSv : ∀ b, b < w.heap.size → S b → v.ownBlock ≠ some b)
    (B c : Nat) (u : Value) (l : List Int) (hx : a.eval x = .slice (some ⟨B, 0, none⟩) 1 c) (hB : Blk w B [u]) (hu : Rd S w u l) (hul : l.length ≤ 9223372036854775807) (hn : ll.length ≤ 1000)
    (h : ∀ v' w', Rd2 (fun b => S b ∨ base ≤ b) w' v' (ll ++ [l]) → Chg (fun k => base ≤ k) w w' → wpList Tryd.prog ops Q rest (a.put o.dst v') w') : wpList Tryd.prog ops Q (o :: rest) a w := by
  obtain ⟨i0, hi, hz0, hz1, hz2⟩ := info_parts infoRow
  obtain ⟨vs, hown, hrows⟩ := hown
  have hvl : vs.length = ll.length := by have := hown.1; omega
  obtain ⟨e', hB⟩ := hB
  have hu1 : u.oneCell' = true := by obtain ⟨a1, c1, rfl⟩ := hu.val; rfl
  refine wpList_append_lies w hgd s x _ ho base 29 i0 (.slice none 0 0) 1 24 Tryd.underlying22 hi hz0 hz1 hz2 rfl (by decide) v ll.length vs hs hown ⟨B, 0, none⟩ 1 c [u] hx rfl (World.news_of_block (cs := #[u]) (t := e') (fr := (0, 0)) hB) (by simpa using hu1) (by omega) (by unfold maxLen; omega) (by omega) hbs _ rfl (fun g cap w' hown' hgrow hat hlt => ?_)
  have hown2 : ∀ b, v.ownBlock = some b → base ≤ b := fun b hb => (hown.lt b hb).1
  have hown3 : ∀ b, (Value.slice (some ⟨g, 0, none⟩) (ll.length + 1) cap).ownBlock = some b → base ≤ b := fun b hb => (hown'.lt b hb).1
  have hc : Chg (fun k => v.ownBlock = some k) w w' := (Chg.refl _ w).grown hgrow (fun k hk => .inl hk)
  have hst : ∀ x l, Rd S w x l → Rd (fun b => S b ∨ base ≤ b) w' x l := fun x l hr =>
    ((hr.mono (S' := fun b => S b ∧ b < w.heap.size) (fun b hb hS => ⟨hS, hb⟩)).keep hc (fun b hb hf => hSv b hb.2 hb.1 hf)).mono fun b _ hb => .inl hb.1
  refine h _ w' (Rd2.ofOwns (n := ll.length + 1) hown' (by simp) (fun b hb => .inr (hown3 b hb)) (fun j hj => ?_)) (hc.mono fun b _ hb => hown2 b hb)
  by_cases e : j < ll.length
  · obtain ⟨u', h1, h2, h3⟩ := hrows j e
    have e1 : (ll ++ [l]).getD j [] = ll.getD j [] := by simp [List.getD, List.getElem?_append_left e]
    rw [e1]
    exact ⟨u', by rw [List.getElem?_append_left (by omega)]; exact h1, hst _ _ h2, h3⟩
  · have ej : j = ll.length := by simp at hj; omega
    have e1 : (ll ++ [l]).getD j [] = l := by subst ej; simp [List.getD]
    rw [e1]
    exact ⟨u, by rw [List.getElem?_append_right (by omega), ej, hvl, Nat.sub_self]; rfl, hst _ _ hu, hul⟩

end Go.Proofs.YtbindapfjghnaaaDoor
