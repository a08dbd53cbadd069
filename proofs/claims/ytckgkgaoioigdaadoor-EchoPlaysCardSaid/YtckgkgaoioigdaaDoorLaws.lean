/-
  make, append of one element, and a struct put into memory, at the operation itself.
  Conditions: fewer than 1000000 elements, each of at most 1000 bytes.
-/
import Derived.Test.YtckgkgaoioigdaaDoorHeap
import Derived.Laws.NewBlocks
namespace Go.Proofs.YtckgkgaoioigdaaDoor
open Go Go.RowKit

section
variable {P : Program}

theorem wp_make {o : Oper} {a : Act} {w : World} {K : Act → World → Prop} {Q : Exit → Act → World → Prop} (t : TypeId) (l c : Operand) (hop : o.op = Op.makeSlice t l c) (e : TypeId) (z : Value) (k bytes : Nat)
    (hinfo : (P.info? e).map (fun i => (i.zero, i.size, i.bytes)) = some (some z, k, bytes)) (ht : P.underlying t = some (.slice e)) (kl kc : IntKind) (n : Nat) (hl : a.eval l = .int kl n) (hc : a.eval c = .int kc n)
    (hb : bytes ≤ 1000) (hn : n < 1000000)
    (h : ∀ g w', g = w.heap.size → w'.ownsRow 0 e k (.slice (some ⟨g, 0, none⟩) n n) n (madeCells z.cells (n * k)).toList → Chg NoF w w' → g < w'.heap.size → K (a.put o.dst (.slice (some ⟨g, 0, none⟩) n n)) w') : o.wp P a w K Q := by
  obtain ⟨i, hi, hz, hs, hby⟩ := info_parts hinfo
  obtain ⟨w', hrun, r1, r2⟩ := run_make_full (P := P) w 0 t e i z k ht hi hz hs kl kc n (by rw [hby]; exact Nat.le_trans (Nat.mul_le_mul hb (Nat.le_of_lt hn)) (by omega)) (by unfold maxLen; omega) (Nat.zero_le _)
  have hlt := (r1.lt w.heap.size rfl).2
  have hc2 : Chg NoF w w' := (Chg.refl NoF w).grown r2 (fun k hk => by cases hk)
  unfold Oper.wp
  simp [execOp, hop, hl, hc, hrun, Result.andThen]
  exact h _ w' rfl r1 hc2 hlt

theorem wp_app {o : Oper} {a : Act} {w : World} {K : Act → World → Prop} {Q : Exit → Act → World → Prop} (s x : Operand) (t : TypeId)
    (ho : o.op = .call { callee := .builtin .append, args := #[s, x], argTypes := #[t, t] }) (e : TypeId) (z : Value) (k bytes : Nat)
    (hinfo : (P.info? e).map (fun i => (i.zero, i.size, i.bytes)) = some (some z, k, bytes)) (ht : P.underlying t = some (.slice e)) (hzs : z.cells.size = k) (hk : 0 < k)
    (v : Value) (n : Nat) (xs : List Value) (hs : a.eval s = v) (hown : w.ownsRow 0 e k v n xs)
    (B c : Nat) (us : List Value) (hx : a.eval x = .slice (some ⟨B, 0, none⟩) 1 c) (hB : ∃ e' fr, w.heap[B]? = some (.cells us.toArray e' fr)) (hus : us.length = k) (hone : ∀ u ∈ us, u.oneCell' = true)
    (hb : bytes ≤ 1000) (hn : n < 1000000)
    (h : ∀ g cap w', w'.ownsRow 0 e k (.slice (some ⟨g, 0, none⟩) (n + 1) cap) (n + 1) (xs ++ us) → Chg (fun k => v.ownBlock = some k) w w' → (∀ k, (Value.slice (some ⟨g, 0, none⟩) (n + 1) cap).ownBlock = some k → v.ownBlock = some k ∨ w.heap.size ≤ k) → g < w'.heap.size → K (a.put o.dst (.slice (some ⟨g, 0, none⟩) (n + 1) cap)) w') : o.wp P a w K Q := by
  obtain ⟨i, hi, hz, hsz, hby⟩ := info_parts hinfo
  obtain ⟨e', fr, hB⟩ := hB
  refine wp_append_lies w s x t ho 0 e i z k bytes ht hi hz hsz hby hzs hk v n xs hs hown ⟨B, 0, none⟩ 1 c us hx (by rw [Nat.one_mul]; exact hus) (World.news_of_block (cs := us.toArray) (t := e') (fr := fr) hB) hone (by omega) (by unfold maxLen; omega) (Nat.le_trans (Nat.mul_le_mul (show n + 1 ≤ 1000000 by omega) hb) (by omega)) (Nat.zero_le _) _ rfl ?_
  intro g cap w1 hown1 hgrow hat hlt1
  refine h g cap w1 hown1 ((Chg.refl _ w).grown hgrow (fun k hk => .inl hk)) (fun k' hk' => ?_) hlt1
  obtain rfl : g = k' := by simpa [Value.ownBlock] using hk'
  rcases hat with h1 | h1
  · exact .inl h1
  · right; omega

/-- s[1:] of a slice that has an element: the address is one further, unless nothing is left of the room. -/
theorem run_tail {w : World} (t e : TypeId) (z : Value) (k bytes : Nat) (ht : P.underlying t = some (.slice e)) (hinfo : (P.info? e).map (fun i => (i.zero, i.size, i.bytes)) = some (some z, k, bytes)) (g off m cap : Nat) (hcap : m + 1 ≤ cap) (hmax : cap ≤ maxLen) :
    (Instr.sliceAt t (.slice (some ⟨g, off, none⟩) (m + 1) cap) (some (.int .i64 1)) none none).run P w = .ok (.slice (some (if cap = 1 then ⟨g, off, none⟩ else Addr.add ⟨g, off, none⟩ k)) m (cap - 1)) w := by
  obtain ⟨i, hi, hz, hs, hby⟩ := info_parts hinfo
  have hu : ∀ w, (underlying t).run P w = .ok (TypeDesc.slice e) w := run_underlying ht
  have hsz : ∀ w, (sizeOf e).run P w = .ok k w := fun w => by simp [sizeOf, typeInfo, hi, hs, go_sem]
  have h1 : ¬ (cap = 0) := by omega
  by_cases hc : cap = 1
  · subst hc
    obtain rfl : m = 0 := by omega
    simp [Instr.sliceAt, Instr.slice, Instr.sliceBounds, hu, hsz, go_sem]
  · simp [Instr.sliceAt, Instr.slice, Instr.sliceBounds, hu, hsz, go_sem, hc]
    intro h; omega

end
end Go.Proofs.YtckgkgaoioigdaaDoor
