/-
  A slice of integers that is read: its elements as a list, its block one of those that are kept; errors as values.
  Conditions: none beyond those of each lemma.
-/
import Derived.Test.YtckgkgaoioigdaaDoorHeap
import Derived.OpenShut
namespace Go.Proofs.YtckgkgaoioigdaaDoor
open Go Go.RowKit

/-- The slice v reads as l; its block, if it has an element, is one of S. -/
def Rd (S : Nat → Prop) (w : World) (v : Value) (l : List Int) : Prop :=
  ∃ a c, v = .slice a l.length c ∧ (l = [] ∨ ∃ b off, a = some ⟨b, off, none⟩ ∧ S b ∧ l.length ≤ c ∧ ∀ j, j < l.length → w.cell? ⟨b, off + j, none⟩ = some (.int .i64 (l.getD j 0)))

theorem Rd.keep {S F : Nat → Prop} {w w' : World} {v : Value} {l : List Int} (h : Rd S w v l) (hc : Chg F w w') (hn : ∀ b, S b → ¬ F b) : Rd S w' v l := by
  obtain ⟨a, c, rfl, h⟩ := h
  refine ⟨a, c, rfl, ?_⟩
  rcases h with h | ⟨b, off, ha, hS, hcap, hcell⟩
  · exact .inl h
  · exact .inr ⟨b, off, ha, hS, hcap, fun j hj => hc.cell_some (hcell j hj) (hn b hS)⟩

theorem Rd.mono {S S' : Nat → Prop} {w : World} {v : Value} {l : List Int} (h : Rd S w v l) (hS : ∀ b, b < w.heap.size → S b → S' b) : Rd S' w v l := by
  obtain ⟨a, c, rfl, h⟩ := h
  refine ⟨a, c, rfl, ?_⟩
  rcases h with h | ⟨b, off, ha, hb, hcap, hcell⟩
  · exact .inl h
  · by_cases h0 : l.length = 0
    · exact .inl (List.eq_nil_of_length_eq_zero h0)
    · exact .inr ⟨b, off, ha, hS b (World.block_lt_of_cell? w _ (hcell 0 (by omega))) hb, hcap, hcell⟩

/-- Where there is an element. -/
theorem Rd.form {S : Nat → Prop} {w : World} {v : Value} {l : List Int} (h : Rd S w v l) (hl : 0 < l.length) :
    ∃ b off c, v = .slice (some ⟨b, off, none⟩) l.length c ∧ S b ∧ ∀ j, j < l.length → w.cell? ⟨b, off + j, none⟩ = some (.int .i64 (l.getD j 0)) := by
  obtain ⟨a, c, rfl, h⟩ := h
  rcases h with rfl | ⟨b, off, rfl, hS, _, hc⟩
  · simp at hl
  · exact ⟨b, off, c, rfl, hS, hc⟩

/-- The same, with the room. -/
theorem Rd.formC {S : Nat → Prop} {w : World} {v : Value} {l : List Int} (h : Rd S w v l) (hl : 0 < l.length) :
    ∃ b off c, v = .slice (some ⟨b, off, none⟩) l.length c ∧ S b ∧ l.length ≤ c ∧ ∀ j, j < l.length → w.cell? ⟨b, off + j, none⟩ = some (.int .i64 (l.getD j 0)) := by
  obtain ⟨a, c, rfl, h⟩ := h
  rcases h with rfl | ⟨b, off, rfl, hS, hcap, hc⟩
  · simp at hl
  · exact ⟨b, off, c, rfl, hS, hcap, hc⟩

theorem Rd.val {S : Nat → Prop} {w : World} {v : Value} {l : List Int} (h : Rd S w v l) : ∃ a c, v = .slice a l.length c := by
  obtain ⟨a, c, rfl, _⟩ := h; exact ⟨a, c, rfl⟩

theorem Rd.nil (S : Nat → Prop) (w : World) : Rd S w (.slice none 0 0) [] := ⟨none, 0, rfl, .inl rfl⟩

/-- What is owned is read. -/
theorem Rd.ofOwns {S : Nat → Prop} {w : World} {e base n : Nat} {v : Value} {l : List Int} (h : w.ownsRow base e 1 v n (l.map (.int .i64))) (hS : ∀ b, v.ownBlock = some b → S b) : Rd S w v l := by
  have hn : l.length = n := by simpa using h.1
  rcases h.2 with ⟨hv, h0⟩ | ⟨g, cap, cur, hv, hb, hg, hcap, hr⟩
  · subst hv; subst h0
    have : l = [] := List.eq_nil_of_length_eq_zero hn
    subst this
    exact Rd.nil _ _
  · subst hv; subst hn
    refine ⟨_, cap, rfl, .inr ⟨g, 0, rfl, hS g rfl, hcap, fun j hj => ?_⟩⟩
    have := h.cellAt j (by omega)
    rw [Nat.zero_add, this]
    simp [List.getD, hj]

/-- The tail of an owned row of integers. -/
theorem Rd.tail {S : Nat → Prop} {w : World} {tag : Nat → Nat} {r e g cap off m : Nat} {x : Int} {l : List Int} (h : Own w tag r e 1 (.slice (some ⟨g, 0, none⟩) (x :: l).length cap) (x :: l).length ((x :: l).map (.int .i64)))
    (hl : l.length = m) (hoff : 0 < m → off = 1) (hS : S g) (c : Nat) (hcap : m ≤ c) : Rd S w (.slice (some ⟨g, off, none⟩) m c) l := by
  subst hl
  refine ⟨_, c, rfl, .inr ⟨g, off, rfl, hS, hcap, fun j hj => ?_⟩⟩
  have h2 := h.row.cellAt (1 + j) (by simp; omega)
  rw [hoff (by omega), h2, Nat.add_comm 1 j]
  simp [List.getD, hj]

/-- The first so many. -/
theorem Rd.take {S : Nat → Prop} {w : World} {a : Option Addr} {n c : Nat} {l : List Int} (h : Rd S w (.slice a n c) l) (k : Nat) (hk : k ≤ l.length) (c' : Nat) (hc' : k ≤ c') : Rd S w (.slice a k c') (l.take k) := by
  obtain ⟨a', c2, e, h⟩ := h
  simp only [Value.slice.injEq] at e
  obtain ⟨rfl, _, _⟩ := e
  have hl : (l.take k).length = k := by rw [List.length_take]; omega
  refine ⟨a, c', by rw [hl], ?_⟩
  rcases h with rfl | ⟨b, off, ha, hS, _, hc⟩
  · left; simp
  · refine .inr ⟨b, off, ha, hS, by rw [hl]; exact hc', fun j hj => ?_⟩
    rw [hl] at hj
    rw [hc j (by omega)]
    simp [List.getD, hj]

/-- The first of several faults; 0: none. -/
def firstErr (f : Nat → Int) : Nat → Int
  | 0 => 0
  | n + 1 => if firstErr f n ≠ 0 then firstErr f n else f n

theorem firstErr_none {f : Nat → Int} : ∀ {n : Nat}, (∀ j, j < n → f j = 0) → firstErr f n = 0
  | 0, _ => rfl
  | n + 1, h => by
    have := firstErr_none (n := n) fun j hj => h j (by omega)
    rw [firstErr, this, if_neg (by simp), h n (by omega)]

theorem firstErr_at {f : Nat → Int} {k : Nat} (hk : f k ≠ 0) : ∀ {n : Nat}, k < n → (∀ j, j < k → f j = 0) → firstErr f n = f k
  | n + 1, hkn, h => by
    by_cases e : k = n
    · subst e; rw [firstErr, firstErr_none h, if_neg (by simp)]
    · have := firstErr_at hk (n := n) (by omega) h
      rw [firstErr, this, if_pos hk]

theorem firstErr_zero {f : Nat → Int} {n : Nat} (h : firstErr f n = 0) : ∀ j, j < n → f j = 0 := by
  intro j
  induction j using Nat.strongRecOn with
  | _ j ih =>
    intro hj
    refine Classical.byContradiction fun hne => ?_
    have := firstErr_at hne hj (fun i hi => ih i hi (by omega))
    rw [h] at this; exact hne this.symm

/-- A slice that was built of constants just now. -/
theorem Rd.built (w : World) (e : TypeId) (l : List Int) (c : Nat) (S : Nat → Prop) (hS : S w.heap.size) (hcap : l.length ≤ c := by decide) : Rd S (w.alloc (.cells (l.map (Value.int .i64)).toArray e)) (.slice (some ⟨w.heap.size, 0, none⟩) l.length c) l := by
  refine ⟨_, c, rfl, .inr ⟨w.heap.size, 0, rfl, hS, hcap, fun j hj => ?_⟩⟩
  have := (Blk.alloc w (l.map (Value.int .i64)) e).cell (0 + j)
  rw [this]; simp [List.getD, hj]

/-- Off an argument's row, as the shell of the proof has it. -/
theorem Rd.ofRow {w : World} {a : Option Addr} {len cap : Nat} {zs : List Int} (B : Nat)
    (h : (a = none ∧ len = 0 ∧ cap = 0 ∧ zs = []) ∨ ∃ x, a = some x ∧ len ≤ cap ∧ cap ≤ maxLen ∧ zs.length = cap ∧ (∀ i, i < zs.length → w.cell? (x.add i) = some (.int .i64 (zs.getD i 0))) ∧ ∀ n ∈ zs, (Lit.int .i64 n).wf = true)
    (hB : w.heap.size ≤ B) : Rd (fun k => k < B) w (.slice a len cap) (zs.take len) := by
  rcases h with ⟨rfl, rfl, rfl, rfl⟩ | ⟨x, rfl, hl, hm, hz, hc, _⟩
  · exact Rd.nil _ _
  · have hlen : (zs.take len).length = len := by simp; omega
    refine ⟨some x, cap, by rw [hlen], ?_⟩
    by_cases h0 : len = 0
    · subst h0; exact .inl rfl
    · right
      have hx0 := hc 0 (by omega)
      obtain ⟨b, off, sp⟩ := x
      have hsp : sp = none := by
        cases sp with
        | none => rfl
        | some s => simp [Addr.add, World.cell?] at hx0; split at hx0 <;> simp at hx0
      subst hsp
      refine ⟨b, off, rfl, Nat.lt_of_lt_of_le (World.block_lt_of_cell? w _ hx0) hB, by rw [hlen]; exact hl, fun j hj => ?_⟩
      rw [hlen] at hj
      have := hc j (by omega)
      rw [Addr.add_lit] at this
      rw [this]
      simp [List.getD, hj]

/-- The numbers of a row fit their kind. -/
theorem wf_take {zs : List Int} {len : Nat} (h : ∀ n ∈ zs, (Lit.int .i64 n).wf = true) : ∀ n ∈ zs.take len, (Lit.int .i64 n).wf = true := fun n hn => h n (List.mem_of_mem_take hn)

/-- An error by its number; 0: none. -/
def errV (n : Int) : Value := if n = 0 then .nilIface else .iface 52 (.int .i64 n)

end Go.Proofs.YtckgkgaoioigdaaDoor
