/-
  A region that draws its order, walked in one order: what is quiet under a condition S on the world comes first, what is loud comes in its one forced order, and behind the last operation, which waits for all others, S is not asked any more.
  Conditions: the plan fits the region (a closed fact), S holds at the start and behind each loud operation but the last.
-/
import Derived.OrdersHeld
import Derived.StillTail
import Derived.WalkKit
namespace Go.Proofs.YtckgkgaoioigdaaDoor
open Go

section
variable {P : Program} {ops : Array Oper} {Q : Exit → Act → World → Prop} {md : Region.Mode} {S : World → Prop} {L : Nat}

/-- There is no operation number L, or each other one is waited for by a later one: so L comes behind all. -/
def lastB (md : Region.Mode) (ops : Array Oper) (L : Nat) : Bool :=
  decide (ops.size ≤ L) || (List.range ops.size).all fun i => i == L || (List.range ops.size).any fun j => decide (i < j) && Region.waitsFor md ops j i

/-- What was listed was listed behind what it waits for. -/
structure Closed (md : Region.Mode) (ops : Array Oper) (listed : Array Bool) : Prop where
  size : listed.size = ops.size
  closed : ∀ j oj, ops[j]? = some oj → listed.getD j false = true → ∀ e ∈ oj.after, Region.binds md e = true → listed.getD e.on false = true

theorem Closed.set {listed : Array Bool} {i : Nat} (inv : Closed md ops listed) (hi : i ∈ Region.ready md ops listed) : Closed md ops (listed.setIfInBounds i true) := by
  obtain ⟨_, oi, hoi, hall⟩ := mem_ready.1 hi
  refine ⟨by simp [inv.size], fun j oj hj hl e he hb => ?_⟩
  by_cases hij : i = j
  · subst hij
    have : oj = oi := Option.some.inj (hj.symm.trans hoi)
    subst this
    exact getD_set_true (hall e he hb)
  · rw [getD_set_ne false hij] at hl
    exact getD_set_true (inv.closed j oj hj hl e he hb)

theorem Closed.start : Closed md ops (Array.replicate ops.size false) := ⟨by simp, fun j oj hj hl => by rw [getD_replicate_false] at hl; cases hl⟩

def wpAnyT (P : Program) (md : Region.Mode) (ops : Array Oper) (Q : Exit → Act → World → Prop) (S : World → Prop) (L : Nat) : Nat → Array Bool → Act → World → Prop
  | 0, listed, a, w => Region.ready md ops listed = [] ∧ Q .normal a w
  | fuel + 1, listed, a, w =>
    (Region.ready md ops listed = [] → Q .normal a w) ∧
    ∀ i ∈ Region.ready md ops listed, wpOp P ops Q i (fun a' w' => (i ≠ L → S w') ∧ wpAnyT P md ops Q S L fuel (listed.setIfInBounds i true) a' w') a w

theorem wpAny_of_T : ∀ (fuel : Nat) (listed : Array Bool) (a : Act) (w : World), wpAnyT P md ops Q S L fuel listed a w → wpAny P md ops Q fuel listed a w
  | 0, _, _, _, h => h
  | fuel + 1, _, _, _, h => ⟨h.1, fun i hi => wpOp_mono (fun a' w' h' => wpAny_of_T fuel _ a' w' h'.2) (h.2 i hi)⟩

theorem last_not_ready_aux (hL : ((List.range ops.size).all fun i => i == L || (List.range ops.size).any fun j => decide (i < j) && Region.waitsFor md ops j i) = true) {listed : Array Bool} (inv : Closed md ops listed) :
    ∀ (d i : Nat), ops.size - i = d → i < ops.size → listed.getD i false = false → i ≠ L → L ∉ Region.ready md ops listed := by
  intro d
  induction d using Nat.strongRecOn with
  | _ d ih =>
    intro i hd hi hun hiL hr
    have h1 := List.all_eq_true.1 hL i (List.mem_range.2 hi)
    simp only [Bool.or_eq_true, beq_iff_eq, hiL, false_or] at h1
    obtain ⟨j, hj, h2⟩ := List.any_eq_true.1 h1
    simp only [Bool.and_eq_true, decide_eq_true_eq] at h2
    obtain ⟨hij, h3⟩ := h2
    obtain ⟨oj, hoj, e, he, hb, hon⟩ := Region.waitsFor_spec h3
    have hjs : j < ops.size := List.mem_range.1 hj
    by_cases hjL : j = L
    · subst hjL
      obtain ⟨_, oL, hoL, hall⟩ := mem_ready.1 hr
      have : oj = oL := Option.some.inj (hoj.symm.trans hoL)
      subst this
      have h4 := hall e he hb
      rw [hon, hun] at h4
      cases h4
    · have hju : listed.getD j false = false := by
        cases h5 : listed.getD j false with
        | false => rfl
        | true =>
          have h6 := inv.closed j oj hoj h5 e he hb
          rw [hon, hun] at h6
          cases h6
      exact ih (ops.size - j) (by omega) j rfl hjs hju hjL hr

theorem last_not_ready (hL : lastB md ops L = true) {i : Nat} {listed : Array Bool} (inv : Closed md ops listed) (hi : i ∈ Region.ready md ops listed) (hiL : i ≠ L) : L ∉ Region.ready md ops listed := by
  obtain ⟨hun, oi, hoi, _⟩ := mem_ready.1 hi
  have hlt : i < ops.size := (Array.getElem?_eq_some_iff.1 hoi).1
  simp only [lastB, Bool.or_eq_true, decide_eq_true_eq] at hL
  rcases hL with hL | hL
  · intro h
    obtain ⟨_, oL, hoL, _⟩ := mem_ready.1 h
    have := (Array.getElem?_eq_some_iff.1 hoL).1
    omega
  · exact last_not_ready_aux hL inv _ i rfl hlt (getD_both hun) hiL

theorem wpAnyT_first (hL : lastB md ops L = true) {i : Nat} {oi : Oper} {v : Value} (hiL : i ≠ L) (hi : ops[i]? = some oi) (hsel : ∀ (j : Nat) (o : Oper) cs b, ops[j]? = some o → o.op ≠ .select cs b)
    (hQ : ∀ c a w, Q (.panic c) (a.put oi.dst v) w → Q (.panic c) a w) :
    ∀ (fuel : Nat) (listed : Array Bool) (a : Act) (w : World), Closed md ops listed →
      (∀ j oj, ops[j]? = some oj → j ≠ i → listed.getD j true = false → (∀ e ∈ oj.after, Region.binds md e = true → e.on ≠ i) → oi.apart ops oj = true) →
      i ∈ Region.ready md ops listed → YieldsIf P ops S oi v a → S w →
      wpAnyT P md ops Q S L fuel (listed.setIfInBounds i true) (a.put oi.dst v) w → wpAnyT P md ops Q S L (fuel + 1) listed a w := by
  intro fuel
  induction fuel with
  | zero =>
    intro listed a w inv _ hr hy hS H
    refine ⟨fun h => (by rw [h] at hr; cases hr), fun j hj => ?_⟩
    by_cases hji : j = i
    · subst hji; exact hy.wpOp hi hS ⟨fun _ => hS, H⟩
    · have := ready_mono hj hji
      rw [H.1] at this
      cases this
  | succ fuel ih =>
    intro listed a w inv hfree hr hy hS H
    refine ⟨fun h => (by rw [h] at hr; cases hr), fun j hj => ?_⟩
    by_cases hji : j = i
    · subst hji; exact hy.wpOp hi hS ⟨fun _ => hS, H⟩
    · have hjL : j ≠ L := fun e => last_not_ready hL inv hr hiL (e ▸ hj)
      have h1 := H.2 j (ready_mono hj hji)
      obtain ⟨hjun, oj, hoj, hall⟩ := mem_ready.1 hj
      have hnot : ∀ e ∈ oj.after, Region.binds md e = true → e.on ≠ i := fun e he hb heq => by
        have h1 := hall e he hb
        have h0 := (mem_ready.1 hr).1
        rw [heq] at h1
        rcases Nat.lt_or_ge i listed.size with h' | h'
        · simp [h'] at h0 h1; rw [h0] at h1; cases h1
        · simp [Array.getElem?_eq_none h'] at h1
      have h2 := wpOp_putIf hoj (hfree j oj hoj hji hjun hnot) (fun cs b => hsel i oi cs b hi) (fun cs b => hsel j oj cs b hoj) hQ hy h1
      have hfree' : ∀ k ok, ops[k]? = some ok → k ≠ i → (listed.setIfInBounds j true).getD k true = false →
          (∀ e ∈ ok.after, Region.binds md e = true → e.on ≠ i) → oi.apart ops ok = true := fun k ok hk hki hun hno => by
        refine hfree k ok hk hki ?_ hno
        by_cases hjk : j = k
        · subst hjk; exact hjun
        · rw [getD_set_ne true hjk] at hun; exact hun
      refine wpOp_mono (fun a' w' h3 => ⟨h3.2.1, ih (listed.setIfInBounds j true) a' w' (inv.set hj) hfree' (ready_mono hr (Ne.symm hji)) h3.1 (h3.2.1 hjL) ?_⟩) h2
      rw [Array.setIfInBounds_comm _ _ hji]
      exact h3.2.2

/-- The plan: of each operation, in the order of the walk, its number and whether it is quiet. -/
def planB (md : Region.Mode) (ops : Array Oper) (L : Nat) : List (Nat × Bool) → Array Bool → Bool
  | [], listed => (Region.ready md ops listed).isEmpty
  | (i, true) :: pl, listed => i != L && (Region.ready md ops listed).contains i && Region.free md ops listed i && planB md ops L pl (listed.setIfInBounds i true)
  | (i, false) :: pl, listed => decide (Region.ready md ops listed = [i]) && (i != L || pl.isEmpty) && planB md ops L pl (listed.setIfInBounds i true)

def planAllB (md : Region.Mode) (ops : Array Oper) (L : Nat) (pl : List (Nat × Bool)) : Bool :=
  Region.noSelect ops && lastB md ops L && pl.length == ops.size && planB md ops L pl (Array.replicate ops.size false)

def wpPlan (P : Program) (ops : Array Oper) (Q : Exit → Act → World → Prop) (S : World → Prop) (L : Nat) : List (Nat × Bool) → Act → World → Prop
  | [], a, w => Q .normal a w
  | (i, true) :: pl, a, w => ∃ oi v, ops[i]? = some oi ∧ (∀ c a w, Q (.panic c) (a.put oi.dst v) w → Q (.panic c) a w) ∧ YieldsIf P ops S oi v a ∧ wpPlan P ops Q S L pl (a.put oi.dst v) w
  | (i, false) :: pl, a, w => wpOp P ops Q i (fun a' w' => (i ≠ L → S w') ∧ wpPlan P ops Q S L pl a' w') a w

/-- Nothing loud is left behind L, if L is the last of the plan. -/
theorem wpAnyT_of_plan (hs : Region.noSelect ops = true) (hL : lastB md ops L = true) : ∀ (pl : List (Nat × Bool)) (listed : Array Bool) (a : Act) (w : World), Closed md ops listed →
    planB md ops L pl listed = true → (pl ≠ [] → S w) → wpPlan P ops Q S L pl a w → wpAnyT P md ops Q S L pl.length listed a w
  | [], _, _, _, _, hB, _, h => ⟨by simpa [planB] using hB, h⟩
  | (i, true) :: pl, listed, a, w, inv, hB, hS, h => by
    simp only [planB, Bool.and_eq_true, bne_iff_ne, ne_eq] at hB
    obtain ⟨⟨⟨hiL, hr⟩, hf⟩, hB'⟩ := hB
    obtain ⟨oi, v, ho, hQ, hy, hn⟩ := h
    have hSw : S w := hS (by simp)
    have hr' : i ∈ Region.ready md ops listed := by simpa using hr
    exact wpAnyT_first hL hiL ho (Region.noSelect_spec hs) hQ pl.length listed a w inv (Region.free_spec ho hf) hr' hy hSw
      (wpAnyT_of_plan hs hL pl _ _ w (inv.set hr') hB' (fun _ => hSw) hn)
  | (i, false) :: pl, listed, a, w, inv, hB, hS, h => by
    simp only [planB, Bool.and_eq_true, decide_eq_true_eq, Bool.or_eq_true, bne_iff_ne, ne_eq, List.isEmpty_iff] at hB
    obtain ⟨⟨hr, hl⟩, hB'⟩ := hB
    refine ⟨fun h0 => (by rw [hr] at h0; cases h0), fun j hj => ?_⟩
    rw [hr] at hj
    obtain rfl : j = i := by simpa using hj
    have hr' : j ∈ Region.ready md ops listed := by rw [hr]; simp
    refine wpOp_mono (fun a' w' h3 => ⟨h3.1, wpAnyT_of_plan hs hL pl _ a' w' (inv.set hr') hB' (fun hne => ?_) h3.2⟩) h
    rcases hl with hl | hl
    · exact h3.1 hl
    · exact absurd hl hne

/-- The plan with its operations written out. -/
def planOps (ops : List Oper) (pl : List (Nat × Bool)) : List (Nat × Oper × Bool) := pl.map fun x => (x.1, ops[x.1]?.getD default, x.2)

def wpPlanL (P : Program) (ops : Array Oper) (Q : Exit → Act → World → Prop) (S : World → Prop) (L : Nat) : List (Nat × Oper × Bool) → Act → World → Prop
  | [], a, w => Q .normal a w
  | (_, oi, true) :: pl, a, w => ∃ v, (∀ c a w, Q (.panic c) (a.put oi.dst v) w → Q (.panic c) a w) ∧ YieldsIf P ops S oi v a ∧ wpPlanL P ops Q S L pl (a.put oi.dst v) w
  | (i, oi, false) :: pl, a, w => if Region.wanted oi (yielded ops a.tmps) then oi.wp P a w (fun a' w' => (i ≠ L → S w') ∧ wpPlanL P ops Q S L pl a' w') Q ∨ (oi.asks P a w ∧ LetsOut Q) else (i ≠ L → S w) ∧ wpPlanL P ops Q S L pl (a.put oi.dst undef) w

theorem mem_plan : ∀ (pl : List (Nat × Bool)) (listed : Array Bool), planB md ops L pl listed = true → ∀ x ∈ pl, x.1 < ops.size
  | [], _, _, x, hx => by cases hx
  | (i, b) :: pl, listed, hB, x, hx => by
    have hr : i ∈ Region.ready md ops listed ∧ planB md ops L pl (listed.setIfInBounds i true) = true := by
      cases b <;> simp only [planB, Bool.and_eq_true, decide_eq_true_eq] at hB
      · exact ⟨by rw [hB.1.1]; simp, hB.2⟩
      · exact ⟨by simpa using hB.1.1.2, hB.2⟩
    rcases List.mem_cons.1 hx with rfl | hx
    · obtain ⟨_, o, ho, _⟩ := mem_ready.1 hr.1
      exact (Array.getElem?_eq_some_iff.1 ho).1
    · exact mem_plan pl _ hr.2 x hx

theorem wpPlan_of_L : ∀ (pl : List (Nat × Bool)) (a : Act) (w : World), (∀ x ∈ pl, x.1 < ops.size) → wpPlanL P ops Q S L (planOps ops.toList pl) a w → wpPlan P ops Q S L pl a w
  | [], _, _, _, h => h
  | (i, true) :: pl, a, w, hm, h => by
    have hi : i < ops.size := hm (i, true) (by simp)
    have ho : ops[i]? = some (ops.toList[i]?.getD default) := by simp [hi]
    obtain ⟨v, hQ, hy, hn⟩ := h
    exact ⟨_, v, ho, hQ, hy, wpPlan_of_L pl _ _ (fun x hx => hm x (by simp [hx])) hn⟩
  | (i, false) :: pl, a, w, hm, h => by
    have hi : i < ops.size := hm (i, false) (by simp)
    have ho : ops[i]? = some (ops.toList[i]?.getD default) := by simp [hi]
    have hk : ∀ a w, wpPlanL P ops Q S L (planOps ops.toList pl) a w → wpPlan P ops Q S L pl a w := fun a w => wpPlan_of_L pl a w (fun x hx => hm x (by simp [hx]))
    simp only [wpPlan, wpOp, ho]
    simp only [planOps, List.map_cons, wpPlanL] at h
    split at h
    · rename_i hw
      rw [if_pos hw]
      rcases h with h | h
      · exact .inl (Oper.wp_mono (fun _ _ h1 => ⟨h1.1, hk _ _ h1.2⟩) h)
      · exact .inr h
    · rename_i hw
      rw [if_neg hw]
      exact ⟨h.1, hk _ _ h.2⟩

/-- THE RULE. -/
theorem wp_region_plan (S : World → Prop) (L : Nat) (pl : List (Nat × Bool)) {id : Nat} {a : Act} {w : World} {l : List Oper} (hm : P.follows .mixedOrders = true) (hB : planAllB .any l.toArray L pl = true)
    (hS : S w.drew) (h : wpPlanL P l.toArray Q S L (planOps l pl) a w.drew) : (Code.region id l.toArray true).wp P Q a w := by
  simp only [planAllB, Bool.and_eq_true, beq_iff_eq] at hB
  obtain ⟨⟨⟨hs, hL⟩, hlen⟩, hB'⟩ := hB
  refine wp_region_any hm (wpAny_of_T (S := S) (L := L) _ _ _ _ ?_)
  have := wpAnyT_of_plan hs hL pl (Array.replicate l.toArray.size false) a w.drew Closed.start hB' (fun _ => hS) (wpPlan_of_L pl _ _ (mem_plan pl _ hB') (by simpa using h))
  rw [hlen] at this
  exact this

theorem wpPlan_nil {a : Act} {w : World} (h : Q .normal a w) : wpPlanL P ops Q S L [] a w := h

/-- A quiet operation without a guard. -/
theorem wpPlan_quiet {i : Nat} {pl : List (Nat × Oper × Bool)} {a : Act} {w : World} {oi : Oper} {v : Value} (hg : oi.guard = none) (hQ : ∀ c a w, Q (.panic c) (a.put oi.dst v) w → Q (.panic c) a w)
    (hy : ∀ w, S w → (execOp a.eval oi).run P w = .ok (.value v) w) (h : wpPlanL P ops Q S L pl (a.put oi.dst v) w) : wpPlanL P ops Q S L ((i, oi, true) :: pl) a w :=
  ⟨v, hQ, .inl ⟨by simp [Region.wanted, hg], hy⟩, h⟩

/-- A quiet operation with a guard that says yes. -/
theorem wpPlan_quietG {i : Nat} {pl : List (Nat × Oper × Bool)} {a : Act} {w : World} {oi : Oper} {v : Value} (hg : Region.wanted oi (yielded ops a.tmps) = true) (hQ : ∀ c a w, Q (.panic c) (a.put oi.dst v) w → Q (.panic c) a w)
    (hy : ∀ w, S w → (execOp a.eval oi).run P w = .ok (.value v) w) (h : wpPlanL P ops Q S L pl (a.put oi.dst v) w) : wpPlanL P ops Q S L ((i, oi, true) :: pl) a w :=
  ⟨v, hQ, .inl ⟨hg, hy⟩, h⟩

/-- A quiet operation with a guard that says no. -/
theorem wpPlan_skip {i : Nat} {pl : List (Nat × Oper × Bool)} {a : Act} {w : World} {oi : Oper} (hg : Region.wanted oi (yielded ops a.tmps) = false) (hQ : ∀ c a w, Q (.panic c) (a.put oi.dst undef) w → Q (.panic c) a w)
    (h : wpPlanL P ops Q S L pl (a.put oi.dst undef) w) : wpPlanL P ops Q S L ((i, oi, true) :: pl) a w :=
  ⟨undef, hQ, .inr ⟨hg, rfl⟩, h⟩

/-- A loud operation without a guard. -/
theorem wpPlan_loud {i : Nat} {pl : List (Nat × Oper × Bool)} {a : Act} {w : World} {oi : Oper} (hg : oi.guard = none)
    (h : ∀ K : Act → World → Prop, (∀ a' w', (i ≠ L → S w') → wpPlanL P ops Q S L pl a' w' → K a' w') → oi.wp P a w K Q) : wpPlanL P ops Q S L ((i, oi, false) :: pl) a w := by
  simp only [wpPlanL]
  rw [if_pos (by simp [Region.wanted, hg])]
  exact .inl (h _ fun _ _ h1 h2 => ⟨h1, h2⟩)

/-- A loud operation with a guard that says yes. -/
theorem wpPlan_loudG {i : Nat} {pl : List (Nat × Oper × Bool)} {a : Act} {w : World} {oi : Oper} (hg : Region.wanted oi (yielded ops a.tmps) = true)
    (h : ∀ K : Act → World → Prop, (∀ a' w', (i ≠ L → S w') → wpPlanL P ops Q S L pl a' w' → K a' w') → oi.wp P a w K Q) : wpPlanL P ops Q S L ((i, oi, false) :: pl) a w := by
  simp only [wpPlanL]
  rw [if_pos hg]
  exact .inl (h _ fun _ _ h1 h2 => ⟨h1, h2⟩)

end
end Go.Proofs.YtckgkgaoioigdaaDoor
