/-
  A region that draws its order, in which some loud operations may come in any order, until nothing but a few plans are left.
  Conditions: the plan fits the region (a closed fact), S holds at the start and behind each loud operation but the last.
-/
import Derived.Test.YtckgkgaoioigdaaDoorRegion3
namespace Go.Proofs.YtckgkgaoioigdaaDoor
open Go Go.RowKit

section
variable {P : Program} {Q : Exit → Act → World → Prop} {md : Region.Mode} {S : World → Prop} {L : Nat}

def stopAt (stops : List (List Nat × Pl)) (r : List Nat) : Option Pl := (stops.find? fun x => x.1 == r).map (·.2)

def manyB2 (md : Region.Mode) (ops : Array Oper) (L : Nat) (base : Array Bool) (is : List Nat) (stops : List (List Nat × Pl)) (fuel : Nat) : Bool :=
  is.all (fun i => i != L && decide (i < base.size)) && decide is.Nodup && (subs is).all fun r =>
    match stopAt stops r with
    | some p => plSame p && plB md ops L p (listedOf base is r) && p.size == fuel + r.length
    | none => !r.isEmpty && decide (Region.ready md ops (listedOf base is r) = r)

theorem wpAnyT_many2 {l : List Oper} {base : Array Bool} {is : List Nat} {stops : List (List Nat × Pl)} {fuel : Nat} (hs : Region.noSelect l.toArray = true) (hL : lastB md l.toArray L = true) (hB : manyB2 md l.toArray L base is stops fuel = true) (J : List Nat → Act → World → Prop)
    (hstep : ∀ r i a w, i ∈ is → i ∈ r → J r a w → loud P l.toArray Q S L i (opAt l i) (J (r.erase i)) a w)
    (hend : ∀ r p a w, stopAt stops r = some p → S w → J r a w → wpPl P l Q S L p a w) :
    ∀ (k : Nat) (r : List Nat) (a : Act) (w : World), r.length = k → r.Sublist is → Closed md l.toArray (listedOf base is r) → S w → J r a w → wpAnyT P md l.toArray Q S L (fuel + k) (listedOf base is r) a w := by
  simp only [manyB2, Bool.and_eq_true, decide_eq_true_eq] at hB
  obtain ⟨⟨h1, hnd⟩, h2⟩ := hB
  intro k
  induction k with
  | zero =>
    intro r a w hl hsub hc hS h
    have h3 := List.all_eq_true.1 h2 r (mem_subs hsub)
    obtain rfl := List.eq_nil_of_length_eq_zero hl
    cases hst : stopAt stops [] with
    | none => rw [hst] at h3; simp at h3
    | some p =>
      rw [hst] at h3
      simp only [Bool.and_eq_true, beq_iff_eq] at h3
      have := wpAnyT_of_pl hs hL p _ a w hc h3.1.1 h3.1.2 (fun _ => hS) (hend _ p a w hst hS h)
      rw [h3.2] at this
      exact this
  | succ k ih =>
    intro r a w hl hsub hc hS h
    have h3 := List.all_eq_true.1 h2 r (mem_subs hsub)
    cases hst : stopAt stops r with
    | some p =>
      rw [hst] at h3
      simp only [Bool.and_eq_true, beq_iff_eq] at h3
      have := wpAnyT_of_pl hs hL p _ a w hc h3.1.1 h3.1.2 (fun _ => hS) (hend _ p a w hst hS h)
      rw [h3.2, hl] at this
      exact this
    | none =>
      rw [hst] at h3
      simp only [Bool.and_eq_true, decide_eq_true_eq] at h3
      have hr := h3.2
      have hrn : r.Nodup := hsub.nodup hnd
      refine ⟨fun h0 => (by rw [hr] at h0; rw [h0] at hl; cases hl), fun i hi => ?_⟩
      have hi' := hi
      rw [hr] at hi'
      have his : i ∈ is := hsub.subset hi'
      obtain ⟨_, oo, hoo, _⟩ := mem_ready.1 hi
      have hlt : i < l.length := by have := (Array.getElem?_eq_some_iff.1 hoo).1; simpa using this
      have hiL : i ≠ L := by
        have := List.all_eq_true.1 h1 i his
        simp only [Bool.and_eq_true, bne_iff_ne, ne_eq] at this
        exact this.1
      refine wpOp_mono (fun a' w' h3 => ⟨h3.1, ?_⟩) (wpOp_of_loud hlt (hstep r i a w his hi' h))
      have hset := listedOf_set (base := base) hrn his hi'
      rw [hset]
      have hc' := hc.set hi
      rw [hset] at hc'
      exact ih (r.erase i) a' w' (by rw [List.length_erase_of_mem hi', hl]; rfl) ((List.erase_sublist).trans hsub) hc' (h3.1 hiL) h3.2

def wpMany2 (P : Program) (l : List Oper) (Q : Exit → Act → World → Prop) (S : World → Prop) (L : Nat) (is : List Nat) (stops : List (List Nat × Pl)) (a : Act) (w : World) : Prop :=
  ∃ J : List Nat → Act → World → Prop, J is a w ∧ (∀ r i a w, i ∈ is → i ∈ r → J r a w → loud P l.toArray Q S L i (opAt l i) (J (r.erase i)) a w) ∧ ∀ r p a w, stopAt stops r = some p → S w → J r a w → wpPl P l Q S L p a w

theorem wpAnyT_qs2 {l : List Oper} {is : List Nat} {stops : List (List Nat × Pl)} {fuel : Nat} (hs : Region.noSelect l.toArray = true) (hL : lastB md l.toArray L = true) :
    ∀ (qs : List Nat) (listed : Array Bool) (a : Act) (w : World), Closed md l.toArray listed → qsB md l.toArray L (fun base => manyB2 md l.toArray L base is stops fuel) qs listed = true → S w →
      wpQs P l Q S (wpMany2 P l Q S L is stops) qs a w → wpAnyT P md l.toArray Q S L (fuel + is.length + qs.length) listed a w := by
  intro qs
  induction qs with
  | nil =>
    intro listed a w inv hB hS h
    simp only [qsB] at hB
    obtain ⟨J, h0, hstep, hend⟩ := h
    have := wpAnyT_many2 hs hL hB J hstep hend is.length is a w rfl (List.Sublist.refl _) (by rw [listedOf_self]; exact inv) hS h0
    rw [listedOf_self] at this
    exact this
  | cons i qs ih =>
    intro listed a w inv hB hSw h
    simp only [qsB, Bool.and_eq_true, bne_iff_ne, ne_eq] at hB
    obtain ⟨⟨⟨hiL, hr⟩, hf⟩, hB'⟩ := hB
    obtain ⟨v, hQ, hy, hn⟩ := h
    have hr' : i ∈ Region.ready md l.toArray listed := by simpa using hr
    obtain ⟨_, oo, hoo, _⟩ := mem_ready.1 hr'
    have hlt : i < l.length := by have := (Array.getElem?_eq_some_iff.1 hoo).1; simpa using this
    have ho : l.toArray[i]? = some (opAt l i) := by simp [opAt, hlt]
    exact wpAnyT_first hL hiL ho (Region.noSelect_spec hs) hQ _ listed a w inv (Region.free_spec ho hf) hr' hy hSw (ih _ _ w (inv.set hr') hB' hSw hn)

def manyAllB2 (ops : Array Oper) (L : Nat) (qs is : List Nat) (stops : List (List Nat × Pl)) (fuel : Nat) : Bool :=
  Region.noSelect ops && lastB .any ops L && (fuel + is.length + qs.length == ops.size) && qsB .any ops L (fun base => manyB2 .any ops L base is stops fuel) qs (Array.replicate ops.size false)

/-- THE RULE. -/
theorem wp_region_many2 (S : World → Prop) (L fuel : Nat) (qs is : List Nat) (stops : List (List Nat × Pl)) {id : Nat} {a : Act} {w : World} {l : List Oper} (hm : P.follows .mixedOrders = true) (hB : manyAllB2 l.toArray L qs is stops fuel = true)
    (hS : S w.drew) (h : wpQs P l Q S (wpMany2 P l Q S L is stops) qs a w.drew) : (Code.region id l.toArray true).wp P Q a w := by
  simp only [manyAllB2, Bool.and_eq_true, beq_iff_eq] at hB
  obtain ⟨⟨⟨hs, hL⟩, hlen⟩, hB'⟩ := hB
  refine wp_region_any hm (wpAny_of_T (S := S) (L := L) _ _ _ _ ?_)
  have := wpAnyT_qs2 hs hL qs (Array.replicate l.toArray.size false) a w.drew Closed.start hB' hS h
  rw [hlen] at this
  exact this

theorem wpMany_mk3 {l : List Oper} {stops : List (List Nat × Pl)} {a : Act} {w : World} (w0 : World) (F : Nat → Value → Nat → World → Prop) (ds : List (Nat × Tmp))
    (hn1 : (ds.map Prod.fst).Nodup) (hn2 : (ds.map Prod.snd).Nodup)
    (hkeep : ∀ i v g w w', F i v g w → Chg NoF w w' → F i v g w') (ha : a = putAll ds (fun _ => undef) a) (hc : Chg NoF w0 w)
    (hstep : ∀ (J : Act → World → Prop) (x : Nat → Value) (a1 : Act) (w1 : World) (d : Nat × Tmp), d ∈ ds → a1 = putAll ds x a → Chg NoF w0 w1 →
      (∀ (v : Value) (w2 : World), Chg NoF w1 w2 → F d.1 v w1.heap.size w2 → w1.heap.size < w2.heap.size → J (a1.put (some d.2) v) w2) → loud P l.toArray Q S L d.1 (opAt l d.1) J a1 w1)
    (hend : ∀ (r : List Nat) (p : Pl) (x : Nat → Value) (g : Nat → Nat) (a1 : Act) (w1 : World), stopAt stops r = some p → a1 = putAll ds x a → Chg NoF w0 w1 → (∀ i ∈ ds.map Prod.fst, i ∉ r → F i (x i) (g i) w1 ∧ w0.heap.size ≤ g i ∧ g i < w1.heap.size) → (∀ i ∈ ds.map Prod.fst, ∀ j ∈ ds.map Prod.fst, i ∉ r → j ∉ r → i ≠ j → g i ≠ g j) →
      wpPl P l Q S L p a1 w1) : wpMany2 P l Q S L (ds.map Prod.fst) stops a w := by
  refine ⟨ManyJ w0 (ds.map Prod.fst) F (fun x => putAll ds x a), ManyJ.start ha hc, fun r i a1 w1 hi hr h => ?_, fun r p a1 w1 hst hS h => ?_⟩
  · obtain ⟨x, g, rfl, hc0, hF, hd⟩ := h
    obtain ⟨d, hdm, rfl⟩ := List.mem_map.1 hi
    exact hstep _ x _ w1 d hdm rfl hc0 fun v w2 hc' hv hlt => ManyJ.step hkeep hc0 hF hd (putAll_upd ds x a d v hdm hn1 hn2) hc' hv hlt
  · obtain ⟨x, g, rfl, hc0, hF, hd⟩ := h
    exact hend r p x g _ w1 hst rfl hc0 hF hd
end

end Go.Proofs.YtckgkgaoioigdaaDoor
