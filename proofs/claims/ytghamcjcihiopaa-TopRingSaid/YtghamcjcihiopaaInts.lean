/-
  A slice of integers that is read: its elements as a list, its block one of those that are kept; errors as values.
  Conditions: none beyond those of each lemma.
-/
import Derived.Test.YtghamcjcihiopaaHeap
import Derived.OpenShut
namespace Go.Proofs.Ytghamcjcihiopaa
open Go Go.RowKit

/-- The slice v reads as l; its block, if it has an element, is one of S. -/
def Rd (S : Nat → Prop) (w : World) (v : Value) (l : List Int) : Prop :=
  ∃ a c, v = .slice a l.length c ∧ (l = [] ∨ ∃ b off, a = some ⟨b, off, none⟩ ∧ S b ∧ ∀ j, j < l.length → w.cell? ⟨b, off + j, none⟩ = some (.int .i64 (l.getD j 0)))

theorem Rd.keep {S F : Nat → Prop} {w w' : World} {v : Value} {l : List Int} (h : Rd S w v l) (hc : Chg F w w') (hn : ∀ b, S b → ¬ F b) : Rd S w' v l := by
  obtain ⟨a, c, rfl, h⟩ := h
  refine ⟨a, c, rfl, ?_⟩
  rcases h with h | ⟨b, off, ha, hS, hcell⟩
  · exact .inl h
  · exact .inr ⟨b, off, ha, hS, fun j hj => hc.cell_some (hcell j hj) (hn b hS)⟩

theorem Rd.mono {S S' : Nat → Prop} {w : World} {v : Value} {l : List Int} (h : Rd S w v l) (hS : ∀ b, b < w.heap.size → S b → S' b) : Rd S' w v l := by
  obtain ⟨a, c, rfl, h⟩ := h
  refine ⟨a, c, rfl, ?_⟩
  rcases h with h | ⟨b, off, ha, hb, hcell⟩
  · exact .inl h
  · by_cases h0 : l.length = 0
    · exact .inl (List.eq_nil_of_length_eq_zero h0)
    · exact .inr ⟨b, off, ha, hS b (World.block_lt_of_cell? w _ (hcell 0 (by omega))) hb, hcell⟩

/-- Where there is an element. -/
theorem Rd.form {S : Nat → Prop} {w : World} {v : Value} {l : List Int} (h : Rd S w v l) (hl : 0 < l.length) :
    ∃ b off c, v = .slice (some ⟨b, off, none⟩) l.length c ∧ S b ∧ ∀ j, j < l.length → w.cell? ⟨b, off + j, none⟩ = some (.int .i64 (l.getD j 0)) := by
  obtain ⟨a, c, rfl, h⟩ := h
  rcases h with rfl | ⟨b, off, rfl, hS, hc⟩
  · simp at hl
  · exact ⟨b, off, c, rfl, hS, hc⟩

theorem Rd.val {S : Nat → Prop} {w : World} {v : Value} {l : List Int} (h : Rd S w v l) : ∃ a c, v = .slice a l.length c := by
  obtain ⟨a, c, rfl, _⟩ := h; exact ⟨a, c, rfl⟩

theorem Rd.nil (S : Nat → Prop) (w : World) : Rd S w (.slice none 0 0) [] := ⟨none, 0, rfl, .inl rfl⟩

/-- What is owned is read. -/
theorem Rd.ofOwns {S : Nat → Prop} {w : World} {e base n : Nat} {v : Value} {l : List Int} (h : w.ownsRow base e 1 v n (l.map (.int .i64))) (hS : ∀ b, v.ownBlock = some b → S b) : Rd S w v l := by
  have hn : l.length = n := by simpa using h.1
  rcases h.2 with ⟨hv, h0⟩ | ⟨g, cap, cur, hv, hb, hg, hr⟩
  · subst hv; subst h0
    have : l = [] := List.eq_nil_of_length_eq_zero hn
    subst this
    exact Rd.nil _ _
  · subst hv; subst hn
    refine ⟨_, cap, rfl, .inr ⟨g, 0, rfl, hS g rfl, fun j hj => ?_⟩⟩
    have := h.cellAt j (by omega)
    rw [Nat.zero_add, this]
    simp [List.getD, hj]

/-- A slice that was built of constants just now. -/
theorem Rd.built (w : World) (e : TypeId) (l : List Int) (c : Nat) (S : Nat → Prop) (hS : S w.heap.size) : Rd S (w.alloc (.cells (l.map (Value.int .i64)).toArray e)) (.slice (some ⟨w.heap.size, 0, none⟩) l.length c) l := by
  refine ⟨_, c, rfl, .inr ⟨w.heap.size, 0, rfl, hS, fun j hj => ?_⟩⟩
  have := (Blk.alloc w (l.map (Value.int .i64)) e).cell (0 + j)
  rw [this]; simp [List.getD, hj]

/-- Off an argument's row, as the shell of the proof has it. -/
theorem Rd.ofRow {w : World} {a : Option Addr} {len cap : Nat} {zs : List Int} (B : Nat)
    (h : (a = none ∧ len = 0 ∧ cap = 0 ∧ zs = []) ∨ ∃ x, a = some x ∧ len ≤ cap ∧ cap ≤ maxLen ∧ zs.length = cap ∧ (∀ i, i < zs.length → w.cell? (x.add i) = some (.int .i64 (zs.getD i 0))) ∧ ∀ n ∈ zs, (Lit.int .i64 n).wf = true)
    (hB : w.heap.size ≤ B) : Rd (fun k => k < B) w (.slice a len cap) (zs.take len) := by
  rcases h with ⟨rfl, rfl, rfl, rfl⟩ | ⟨x, rfl, hl, hm, hz, hc, _⟩
  · exact Rd.nil _ _
  · have hlen : (zs.take len).length = len := by simp; omega
    refine ⟨some x, cap, by rw [hlen], ?_⟩
    by_cases h0 : len = 0
    · subst h0; exact .inl rfl
    · right
      have hx0 := hc 0 (by omega)
      obtain ⟨b, off, sp⟩ := x
      have hsp : sp = none := by
        cases sp with
        | none => rfl
        | some s => simp [Addr.add, World.cell?] at hx0; split at hx0 <;> simp at hx0
      subst hsp
      refine ⟨b, off, rfl, Nat.lt_of_lt_of_le (World.block_lt_of_cell? w _ hx0) hB, fun j hj => ?_⟩
      rw [hlen] at hj
      have := hc j (by omega)
      rw [Addr.add_lit] at this
      rw [this]
      simp [List.getD, hj]

/-- The numbers of a row fit their kind. -/
theorem wf_take {zs : List Int} {len : Nat} (h : ∀ n ∈ zs, (Lit.int .i64 n).wf = true) : ∀ n ∈ zs.take len, (Lit.int .i64 n).wf = true := fun n hn => h n (List.mem_of_mem_take hn)

/-- An error by its number; 0: none. -/
def errV (n : Int) : Value := if n = 0 then .nilIface else .iface 35 (.int .i64 n)

end Go.Proofs.Ytghamcjcihiopaa
