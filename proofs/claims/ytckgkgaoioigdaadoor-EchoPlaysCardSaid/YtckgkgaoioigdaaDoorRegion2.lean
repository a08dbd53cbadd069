/-
  A region that draws its order, walked by a plan that branches where two or three loud operations may come up in any order.
  Conditions: the plan fits the region (a closed fact), S holds at the start and behind each loud operation but the last.
-/
import Derived.Test.YtckgkgaoioigdaaDoorRegion
namespace Go.Proofs.YtckgkgaoioigdaaDoor
open Go

inductive Pl where
  | nil
  | q (i : Nat) (p : Pl)
  | l (i : Nat) (p : Pl)
  | b2 (i j : Nat) (p p' : Pl)
  | b3 (i j k : Nat) (p p' p'' : Pl)

section
variable {P : Program} {ops : Array Oper} {Q : Exit → Act → World → Prop} {md : Region.Mode} {S : World → Prop} {L : Nat}

def plB (md : Region.Mode) (ops : Array Oper) (L : Nat) : Pl → Array Bool → Bool
  | .nil, listed => (Region.ready md ops listed).isEmpty
  | .q i p, listed => i != L && (Region.ready md ops listed).contains i && Region.free md ops listed i && plB md ops L p (listed.setIfInBounds i true)
  | .l i p, listed => decide (Region.ready md ops listed = [i]) && (i != L || (match p with | .nil => true | _ => false)) && plB md ops L p (listed.setIfInBounds i true)
  | .b2 i j p p', listed => decide (Region.ready md ops listed = [i, j]) && i != L && j != L && plB md ops L p (listed.setIfInBounds i true) && plB md ops L p' (listed.setIfInBounds j true)
  | .b3 i j k p p' p'', listed => decide (Region.ready md ops listed = [i, j, k]) && i != L && j != L && k != L && plB md ops L p (listed.setIfInBounds i true) && plB md ops L p' (listed.setIfInBounds j true) && plB md ops L p'' (listed.setIfInBounds k true)

/-- One loud operation, written out. -/
def loud (P : Program) (ops : Array Oper) (Q : Exit → Act → World → Prop) (S : World → Prop) (L i : Nat) (oi : Oper) (K : Act → World → Prop) (a : Act) (w : World) : Prop :=
  if Region.wanted oi (yielded ops a.tmps) then oi.wp P a w (fun a' w' => (i ≠ L → S w') ∧ K a' w') Q ∨ (oi.asks P a w ∧ LetsOut Q) else (i ≠ L → S w) ∧ K (a.put oi.dst undef) w

def opAt (l : List Oper) (i : Nat) : Oper := l[i]?.getD default

def wpPl (P : Program) (l : List Oper) (Q : Exit → Act → World → Prop) (S : World → Prop) (L : Nat) : Pl → Act → World → Prop
  | .nil, a, w => Q .normal a w
  | .q i p, a, w => ∃ v, (∀ c a w, Q (.panic c) (a.put (opAt l i).dst v) w → Q (.panic c) a w) ∧ YieldsIf P l.toArray S (opAt l i) v a ∧ wpPl P l Q S L p (a.put (opAt l i).dst v) w
  | .l i p, a, w => loud P l.toArray Q S L i (opAt l i) (wpPl P l Q S L p) a w
  | .b2 i j p p', a, w => loud P l.toArray Q S L i (opAt l i) (wpPl P l Q S L p) a w ∧ loud P l.toArray Q S L j (opAt l j) (wpPl P l Q S L p') a w
  | .b3 i j k p p' p'', a, w => loud P l.toArray Q S L i (opAt l i) (wpPl P l Q S L p) a w ∧ loud P l.toArray Q S L j (opAt l j) (wpPl P l Q S L p') a w ∧ loud P l.toArray Q S L k (opAt l k) (wpPl P l Q S L p'') a w

theorem wpOp_of_loud {l : List Oper} {i : Nat} {K : Act → World → Prop} {a : Act} {w : World} (hi : i < l.length) (h : loud P l.toArray Q S L i (opAt l i) K a w) :
    wpOp P l.toArray Q i (fun a' w' => (i ≠ L → S w') ∧ K a' w') a w := by
  have ho : l.toArray[i]? = some (opAt l i) := by simp [opAt, hi]
  simp only [wpOp, ho]
  exact h

def Pl.size : Pl → Nat
  | .nil => 0
  | .q _ p => p.size + 1
  | .l _ p => p.size + 1
  | .b2 _ _ p _ => p.size + 1
  | .b3 _ _ _ p _ _ => p.size + 1

def plSame : Pl → Bool
  | .nil => true
  | .q _ p => plSame p
  | .l _ p => plSame p
  | .b2 _ _ p p' => plSame p && plSame p' && p.size == p'.size
  | .b3 _ _ _ p p' p'' => plSame p && plSame p' && plSame p'' && p.size == p'.size && p.size == p''.size

theorem wpAnyT_of_pl {l : List Oper} (hs : Region.noSelect l.toArray = true) (hL : lastB md l.toArray L = true) : ∀ (pl : Pl) (listed : Array Bool) (a : Act) (w : World), Closed md l.toArray listed → plSame pl = true →
    plB md l.toArray L pl listed = true → (pl ≠ .nil → S w) → wpPl P l Q S L pl a w → wpAnyT P md l.toArray Q S L pl.size listed a w := by
  intro pl
  induction pl with
  | nil => intro listed a w _ _ hB _ h; exact ⟨by simpa [plB] using hB, h⟩
  | q i p ih =>
    intro listed a w inv hsm hB hS h
    simp only [plB, Bool.and_eq_true, bne_iff_ne, ne_eq] at hB
    obtain ⟨⟨⟨hiL, hr⟩, hf⟩, hB'⟩ := hB
    obtain ⟨v, hQ, hy, hn⟩ := h
    have hSw : S w := hS (by simp)
    have hr' : i ∈ Region.ready md l.toArray listed := by simpa using hr
    obtain ⟨_, oo, hoo, _⟩ := mem_ready.1 hr'
    have hlt : i < l.length := by have := (Array.getElem?_eq_some_iff.1 hoo).1; simpa using this
    have ho : l.toArray[i]? = some (opAt l i) := by simp [opAt, hlt]
    exact wpAnyT_first hL hiL ho (Region.noSelect_spec hs) hQ p.size listed a w inv (Region.free_spec ho hf) hr' hy hSw (ih _ _ w (inv.set hr') hsm hB' (fun _ => hSw) hn)
  | l i p ih =>
    intro listed a w inv hsm hB hS h
    simp only [plB, Bool.and_eq_true, decide_eq_true_eq, Bool.or_eq_true, bne_iff_ne, ne_eq] at hB
    obtain ⟨⟨hr, hl⟩, hB'⟩ := hB
    refine ⟨fun h0 => (by rw [hr] at h0; cases h0), fun j hj => ?_⟩
    rw [hr] at hj
    obtain rfl : j = i := by simpa using hj
    have hr' : j ∈ Region.ready md l.toArray listed := by rw [hr]; simp
    obtain ⟨_, oo, hoo, _⟩ := mem_ready.1 hr'
    have hlt : j < l.length := by have := (Array.getElem?_eq_some_iff.1 hoo).1; simpa using this
    refine wpOp_mono (fun a' w' h3 => ⟨h3.1, ih _ a' w' (inv.set hr') hsm hB' (fun hne => ?_) h3.2⟩) (wpOp_of_loud hlt h)
    rcases hl with hl | hl
    · exact h3.1 hl
    · cases p <;> simp at hl; exact absurd rfl hne
  | b2 i j p p' ih ih' =>
    intro listed a w inv hsm hB hS h
    simp only [plSame, Bool.and_eq_true, beq_iff_eq] at hsm
    obtain ⟨⟨hs1, hs2⟩, hz⟩ := hsm
    simp only [plB, Bool.and_eq_true, decide_eq_true_eq, bne_iff_ne, ne_eq] at hB
    obtain ⟨⟨⟨⟨hr, hi⟩, hj⟩, hB1⟩, hB2⟩ := hB
    have ok : ∀ x, x ∈ Region.ready md l.toArray listed → x < l.length := fun x hx => by
      obtain ⟨_, oo, hoo, _⟩ := mem_ready.1 hx
      have := (Array.getElem?_eq_some_iff.1 hoo).1; simpa using this
    refine ⟨fun h0 => (by rw [hr] at h0; cases h0), fun x hx => ?_⟩
    have hxl := ok x hx
    have hx2 := hx
    rw [hr] at hx2
    simp only [List.mem_cons, List.not_mem_nil, or_false] at hx2
    rcases hx2 with rfl | rfl
    · exact wpOp_mono (fun a' w' h3 => ⟨h3.1, ih _ a' w' (inv.set hx) hs1 hB1 (fun _ => h3.1 hi) h3.2⟩) (wpOp_of_loud hxl h.1)
    · exact wpOp_mono (fun a' w' h3 => ⟨h3.1, by have := ih' _ a' w' (inv.set hx) hs2 hB2 (fun _ => h3.1 hj) h3.2; rw [← hz] at this; exact this⟩) (wpOp_of_loud hxl h.2)
  | b3 i j k p p' p'' ih ih' ih'' =>
    intro listed a w inv hsm hB hS h
    simp only [plSame, Bool.and_eq_true, beq_iff_eq] at hsm
    obtain ⟨⟨⟨⟨hs1, hs2⟩, hs3⟩, hz⟩, hz'⟩ := hsm
    simp only [plB, Bool.and_eq_true, decide_eq_true_eq, bne_iff_ne, ne_eq] at hB
    obtain ⟨⟨⟨⟨⟨⟨hr, hi⟩, hj⟩, hk⟩, hB1⟩, hB2⟩, hB3⟩ := hB
    have ok : ∀ x, x ∈ Region.ready md l.toArray listed → x < l.length := fun x hx => by
      obtain ⟨_, oo, hoo, _⟩ := mem_ready.1 hx
      have := (Array.getElem?_eq_some_iff.1 hoo).1; simpa using this
    refine ⟨fun h0 => (by rw [hr] at h0; cases h0), fun x hx => ?_⟩
    have hxl := ok x hx
    have hx2 := hx
    rw [hr] at hx2
    simp only [List.mem_cons, List.not_mem_nil, or_false] at hx2
    rcases hx2 with rfl | rfl | rfl
    · exact wpOp_mono (fun a' w' h3 => ⟨h3.1, ih _ a' w' (inv.set hx) hs1 hB1 (fun _ => h3.1 hi) h3.2⟩) (wpOp_of_loud hxl h.1)
    · exact wpOp_mono (fun a' w' h3 => ⟨h3.1, by have := ih' _ a' w' (inv.set hx) hs2 hB2 (fun _ => h3.1 hj) h3.2; rw [← hz] at this; exact this⟩) (wpOp_of_loud hxl h.2.1)
    · exact wpOp_mono (fun a' w' h3 => ⟨h3.1, by have := ih'' _ a' w' (inv.set hx) hs3 hB3 (fun _ => h3.1 hk) h3.2; rw [← hz'] at this; exact this⟩) (wpOp_of_loud hxl h.2.2)

def plAllB (ops : Array Oper) (L : Nat) (pl : Pl) : Bool :=
  Region.noSelect ops && lastB .any ops L && pl.size == ops.size && plSame pl && plB .any ops L pl (Array.replicate ops.size false)

/-- THE RULE. -/
theorem wp_region_pl (S : World → Prop) (L : Nat) (pl : Pl) {id : Nat} {a : Act} {w : World} {l : List Oper} (hm : P.follows .mixedOrders = true) (hB : plAllB l.toArray L pl = true)
    (hS : S w.drew) (h : wpPl P l Q S L pl a w.drew) : (Code.region id l.toArray true).wp P Q a w := by
  simp only [plAllB, Bool.and_eq_true, beq_iff_eq] at hB
  obtain ⟨⟨⟨⟨hs, hL⟩, hlen⟩, hsm⟩, hB'⟩ := hB
  refine wp_region_any hm (wpAny_of_T (S := S) (L := L) _ _ _ _ ?_)
  have := wpAnyT_of_pl hs hL pl (Array.replicate l.toArray.size false) a w.drew Closed.start hsm hB' (fun _ => hS) h
  rw [hlen] at this
  exact this

theorem wpPl_quiet {l : List Oper} {i : Nat} {p : Pl} {a : Act} {w : World} {oi : Oper} {v : Value} (ho : opAt l i = oi) (hg : oi.guard = none) (hQ : ∀ c a w, Q (.panic c) (a.put oi.dst v) w → Q (.panic c) a w)
    (hy : ∀ w, S w → (execOp a.eval oi).run P w = .ok (.value v) w) (h : wpPl P l Q S L p (a.put oi.dst v) w) : wpPl P l Q S L (.q i p) a w := by
  subst ho
  exact ⟨v, hQ, .inl ⟨by simp [Region.wanted, hg], hy⟩, h⟩

theorem loud_mk {i : Nat} {oi : Oper} {K : Act → World → Prop} {a : Act} {w : World} (hg : oi.guard = none)
    (h : ∀ K' : Act → World → Prop, (∀ a' w', (i ≠ L → S w') → K a' w' → K' a' w') → oi.wp P a w K' Q) : loud P ops Q S L i oi K a w := by
  unfold loud
  rw [if_pos (by simp [Region.wanted, hg])]
  exact .inl (h _ fun _ _ h1 h2 => ⟨h1, h2⟩)
theorem wpPl_l {l : List Oper} {i : Nat} {p : Pl} {a : Act} {w : World} {oi : Oper} (ho : opAt l i = oi) (hg : oi.guard = none)
    (h : ∀ K' : Act → World → Prop, (∀ a' w', (i ≠ L → S w') → wpPl P l Q S L p a' w' → K' a' w') → oi.wp P a w K' Q) : wpPl P l Q S L (.l i p) a w := by
  subst ho
  exact loud_mk hg h
theorem wpPl_b2 {l : List Oper} {i j : Nat} {p p' : Pl} {a : Act} {w : World} {oi oj : Oper} (ho : opAt l i = oi) (hg : oi.guard = none) (ho' : opAt l j = oj) (hg' : oj.guard = none)
    (h : ∀ K' : Act → World → Prop, (∀ a' w', (i ≠ L → S w') → wpPl P l Q S L p a' w' → K' a' w') → oi.wp P a w K' Q)
    (h' : ∀ K' : Act → World → Prop, (∀ a' w', (j ≠ L → S w') → wpPl P l Q S L p' a' w' → K' a' w') → oj.wp P a w K' Q) : wpPl P l Q S L (.b2 i j p p') a w := by
  subst ho; subst ho'
  exact ⟨loud_mk hg h, loud_mk hg' h'⟩
theorem wpPl_b3 {l : List Oper} {i j k : Nat} {p p' p'' : Pl} {a : Act} {w : World} {oi oj ok : Oper} (ho : opAt l i = oi) (hg : oi.guard = none) (ho' : opAt l j = oj) (hg' : oj.guard = none) (ho'' : opAt l k = ok) (hg'' : ok.guard = none)
    (h : ∀ K' : Act → World → Prop, (∀ a' w', (i ≠ L → S w') → wpPl P l Q S L p a' w' → K' a' w') → oi.wp P a w K' Q)
    (h' : ∀ K' : Act → World → Prop, (∀ a' w', (j ≠ L → S w') → wpPl P l Q S L p' a' w' → K' a' w') → oj.wp P a w K' Q)
    (h'' : ∀ K' : Act → World → Prop, (∀ a' w', (k ≠ L → S w') → wpPl P l Q S L p'' a' w' → K' a' w') → ok.wp P a w K' Q) : wpPl P l Q S L (.b3 i j k p p' p'') a w := by
  subst ho; subst ho'; subst ho''
  exact ⟨loud_mk hg h, loud_mk hg' h', loud_mk hg'' h''⟩
theorem wpPl_nil {l : List Oper} {a : Act} {w : World} (h : Q .normal a w) : wpPl P l Q S L .nil a w := h
end
end Go.Proofs.YtckgkgaoioigdaaDoor
