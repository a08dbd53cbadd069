/-
  A region that draws its order, in which some loud operations, all ready at once, may come in any order: an invariant over those that are left.
  Conditions: the plan fits the region (a closed fact), S holds at the start and behind each loud operation but the last.
-/
import Derived.Test.YtckgkgaoioigdaaDoorRegion2
import Derived.Test.YtckgkgaoioigdaaDoorHeap
namespace Go.Proofs.YtckgkgaoioigdaaDoor
open Go Go.RowKit

section
variable {P : Program} {Q : Exit → Act → World → Prop} {md : Region.Mode} {S : World → Prop} {L : Nat}

/-- What is listed when of these those in r are left. -/
def listedOf (base : Array Bool) (is r : List Nat) : Array Bool := base.mapIdx fun j b => b || (is.contains j && !r.contains j)

def subs : List Nat → List (List Nat)
  | [] => [[]]
  | i :: l => (subs l).map (i :: ·) ++ subs l

theorem mem_subs {r : List Nat} : ∀ {is : List Nat}, r.Sublist is → r ∈ subs is
  | [], h => by rw [List.sublist_nil.1 h]; simp [subs]
  | i :: l, h => by
    unfold subs
    rw [List.mem_append]
    cases h with
    | cons _ h => exact .inr (mem_subs h)
    | cons_cons _ h => exact .inl (List.mem_map.2 ⟨_, mem_subs h, rfl⟩)

def manyB (md : Region.Mode) (ops : Array Oper) (L : Nat) (base : Array Bool) (is : List Nat) : Bool :=
  is.all (fun i => i != L && decide (i < base.size)) && decide is.Nodup && (subs is).all fun r => r.isEmpty || decide (Region.ready md ops (listedOf base is r) = r)

theorem listedOf_set {base : Array Bool} {is r : List Nat} {i : Nat} (hn : r.Nodup) (hi : i ∈ is) (hr : i ∈ r) : (listedOf base is r).setIfInBounds i true = listedOf base is (r.erase i) := by
  apply Array.ext
  · simp [listedOf]
  · intro j h1 h2
    simp only [listedOf, Array.size_setIfInBounds, Array.size_mapIdx] at h1 h2
    rw [Array.getElem_setIfInBounds (by simpa [listedOf] using h1)]
    simp only [listedOf, Array.getElem_mapIdx]
    by_cases e : i = j
    · subst e
      rw [if_pos rfl]
      have h3 : (r.erase i).contains i = false := by
        rw [← Bool.not_eq_true, List.contains_iff_mem]
        exact fun h => (List.Nodup.mem_erase_iff hn).1 h |>.1 rfl
      have h4 : is.contains i = true := List.contains_iff_mem.2 hi
      rw [h3, h4]; simp
    · rw [if_neg e]
      have h3 : (r.erase i).contains j = r.contains j := by
        rw [Bool.eq_iff_iff, List.contains_iff_mem, List.contains_iff_mem]
        exact List.mem_erase_of_ne (Ne.symm e)
      rw [h3]

theorem wpAnyT_many {l : List Oper} {base : Array Bool} {is : List Nat} (hB : manyB md l.toArray L base is = true) (fuel : Nat) (J : List Nat → Act → World → Prop)
    (hstep : ∀ r i a w, i ∈ is → i ∈ r → J r a w → loud P l.toArray Q S L i (opAt l i) (J (r.erase i)) a w)
    (hend : ∀ a w, Closed md l.toArray (listedOf base is []) → S w → J [] a w → wpAnyT P md l.toArray Q S L fuel (listedOf base is []) a w) :
    ∀ (k : Nat) (r : List Nat) (a : Act) (w : World), r.length = k → r.Sublist is → Closed md l.toArray (listedOf base is r) → S w → J r a w → wpAnyT P md l.toArray Q S L (fuel + k) (listedOf base is r) a w := by
  simp only [manyB, Bool.and_eq_true, decide_eq_true_eq] at hB
  obtain ⟨⟨h1, hnd⟩, h2⟩ := hB
  intro k
  induction k with
  | zero =>
    intro r a w hl _ hc hS h
    obtain rfl := List.eq_nil_of_length_eq_zero hl
    exact hend a w hc hS h
  | succ k ih =>
    intro r a w hl hs hc _ h
    have hr : Region.ready md l.toArray (listedOf base is r) = r := by
      have := List.all_eq_true.1 h2 r (mem_subs hs)
      rcases Bool.or_eq_true_iff.1 this with h3 | h3
      · rw [List.isEmpty_iff.1 h3] at hl; cases hl
      · exact of_decide_eq_true h3
    have hrn : r.Nodup := hs.nodup hnd
    refine ⟨fun h0 => (by rw [hr] at h0; rw [h0] at hl; cases hl), fun i hi => ?_⟩
    have hi' := hi
    rw [hr] at hi'
    have his : i ∈ is := hs.subset hi'
    obtain ⟨_, oo, hoo, _⟩ := mem_ready.1 hi
    have hlt : i < l.length := by have := (Array.getElem?_eq_some_iff.1 hoo).1; simpa using this
    have hiL : i ≠ L := by
      have := List.all_eq_true.1 h1 i his
      simp only [Bool.and_eq_true, bne_iff_ne, ne_eq] at this
      exact this.1
    refine wpOp_mono (fun a' w' h3 => ⟨h3.1, ?_⟩) (wpOp_of_loud hlt (hstep r i a w his hi' h))
    have hset := listedOf_set (base := base) hrn his hi'
    rw [hset]
    have hc' := hc.set hi
    rw [hset] at hc'
    exact ih (r.erase i) a' w' (by rw [List.length_erase_of_mem hi', hl]; rfl) ((List.erase_sublist).trans hs) hc' (h3.1 hiL) h3.2

/-- Quiet operations first. -/
def wpQs (P : Program) (l : List Oper) (Q : Exit → Act → World → Prop) (S : World → Prop) (K : Act → World → Prop) : List Nat → Act → World → Prop
  | [], a, w => K a w
  | i :: qs, a, w => ∃ v, (∀ c a w, Q (.panic c) (a.put (opAt l i).dst v) w → Q (.panic c) a w) ∧ YieldsIf P l.toArray S (opAt l i) v a ∧ wpQs P l Q S K qs (a.put (opAt l i).dst v) w

def qsB (md : Region.Mode) (ops : Array Oper) (L : Nat) (fin : Array Bool → Bool) : List Nat → Array Bool → Bool
  | [], listed => fin listed
  | i :: qs, listed => i != L && (Region.ready md ops listed).contains i && Region.free md ops listed i && qsB md ops L fin qs (listed.setIfInBounds i true)

def wpMany (P : Program) (l : List Oper) (Q : Exit → Act → World → Prop) (S : World → Prop) (L : Nat) (is : List Nat) (p : Pl) (a : Act) (w : World) : Prop :=
  ∃ J : List Nat → Act → World → Prop, J is a w ∧ (∀ r i a w, i ∈ is → i ∈ r → J r a w → loud P l.toArray Q S L i (opAt l i) (J (r.erase i)) a w) ∧ ∀ a w, S w → J [] a w → wpPl P l Q S L p a w

theorem listedOf_self (base : Array Bool) (is : List Nat) : listedOf base is is = base := by
  apply Array.ext
  · simp [listedOf]
  · intro j h1 h2
    simp [listedOf]

theorem wpAnyT_qs {l : List Oper} {is : List Nat} {p : Pl} (hs : Region.noSelect l.toArray = true) (hL : lastB md l.toArray L = true) (hsm : plSame p = true) :
    ∀ (qs : List Nat) (listed : Array Bool) (a : Act) (w : World), Closed md l.toArray listed → qsB md l.toArray L (fun base => manyB md l.toArray L base is && plB md l.toArray L p (listedOf base is [])) qs listed = true → S w →
      wpQs P l Q S (wpMany P l Q S L is p) qs a w → wpAnyT P md l.toArray Q S L (p.size + is.length + qs.length) listed a w := by
  intro qs
  induction qs with
  | nil =>
    intro listed a w inv hB hS h
    simp only [qsB, Bool.and_eq_true] at hB
    obtain ⟨hM, hP⟩ := hB
    obtain ⟨J, h0, hstep, hend⟩ := h
    have := wpAnyT_many hM p.size J hstep (fun a w hc hSw hJ => wpAnyT_of_pl hs hL p _ a w hc hsm hP (fun _ => hSw) (hend a w hSw hJ)) is.length is a w rfl (List.Sublist.refl _) (by rw [listedOf_self]; exact inv) hS h0
    rw [listedOf_self] at this
    exact this
  | cons i qs ih =>
    intro listed a w inv hB hSw h
    simp only [qsB, Bool.and_eq_true, bne_iff_ne, ne_eq] at hB
    obtain ⟨⟨⟨hiL, hr⟩, hf⟩, hB'⟩ := hB
    obtain ⟨v, hQ, hy, hn⟩ := h
    have hr' : i ∈ Region.ready md l.toArray listed := by simpa using hr
    obtain ⟨_, oo, hoo, _⟩ := mem_ready.1 hr'
    have hlt : i < l.length := by have := (Array.getElem?_eq_some_iff.1 hoo).1; simpa using this
    have ho : l.toArray[i]? = some (opAt l i) := by simp [opAt, hlt]
    exact wpAnyT_first hL hiL ho (Region.noSelect_spec hs) hQ _ listed a w inv (Region.free_spec ho hf) hr' hy hSw (ih _ _ w (inv.set hr') hB' hSw hn)

def manyAllB (ops : Array Oper) (L : Nat) (qs is : List Nat) (p : Pl) : Bool :=
  Region.noSelect ops && lastB .any ops L && (p.size + is.length + qs.length == ops.size) && plSame p && qsB .any ops L (fun base => manyB .any ops L base is && plB .any ops L p (listedOf base is [])) qs (Array.replicate ops.size false)

/-- THE RULE. -/
theorem wp_region_many (S : World → Prop) (L : Nat) (qs is : List Nat) (p : Pl) {id : Nat} {a : Act} {w : World} {l : List Oper} (hm : P.follows .mixedOrders = true) (hB : manyAllB l.toArray L qs is p = true)
    (hS : S w.drew) (h : wpQs P l Q S (wpMany P l Q S L is p) qs a w.drew) : (Code.region id l.toArray true).wp P Q a w := by
  simp only [manyAllB, Bool.and_eq_true, beq_iff_eq] at hB
  obtain ⟨⟨⟨⟨hs, hL⟩, hlen⟩, hsm⟩, hB'⟩ := hB
  refine wp_region_any hm (wpAny_of_T (S := S) (L := L) _ _ _ _ ?_)
  have := wpAnyT_qs hs hL hsm qs (Array.replicate l.toArray.size false) a w.drew Closed.start hB' hS h
  rw [hlen] at this
  exact this

theorem wpQs_nil {l : List Oper} {K : Act → World → Prop} {a : Act} {w : World} (h : K a w) : wpQs P l Q S K [] a w := h
theorem wpQs_quiet {l : List Oper} {i : Nat} {qs : List Nat} {K : Act → World → Prop} {a : Act} {w : World} {oi : Oper} {v : Value} (ho : opAt l i = oi) (hg : oi.guard = none) (hQ : ∀ c a w, Q (.panic c) (a.put oi.dst v) w → Q (.panic c) a w)
    (hy : ∀ w, S w → (execOp a.eval oi).run P w = .ok (.value v) w) (h : wpQs P l Q S K qs (a.put oi.dst v) w) : wpQs P l Q S K (i :: qs) a w := by
  subst ho
  exact ⟨v, hQ, .inl ⟨by simp [Region.wanted, hg], hy⟩, h⟩
end

/-- Those that are done: of each its value, whose block is new; no two in one block. -/
def ManyJ (w0 : World) (is : List Nat) (F : Nat → Value → Nat → World → Prop) (act : (Nat → Value) → Act) (r : List Nat) (a : Act) (w : World) : Prop :=
  ∃ (x : Nat → Value) (g : Nat → Nat), a = act x ∧ Chg NoF w0 w ∧ (∀ i ∈ is, i ∉ r → F i (x i) (g i) w ∧ w0.heap.size ≤ g i ∧ g i < w.heap.size) ∧ ∀ i ∈ is, ∀ j ∈ is, i ∉ r → j ∉ r → i ≠ j → g i ≠ g j

def updV (x : Nat → Value) (i : Nat) (v : Value) : Nat → Value := fun j => if j = i then v else x j

theorem ManyJ.start {w0 : World} {is : List Nat} {F : Nat → Value → Nat → World → Prop} {act : (Nat → Value) → Act} {a : Act} {w : World} (ha : a = act (fun _ => undef)) (hc : Chg NoF w0 w) : ManyJ w0 is F act is a w :=
  ⟨_, fun _ => 0, ha, hc, fun i hi hn => absurd hi hn, fun i hi _ _ hn => absurd hi hn⟩

theorem ManyJ.step {w0 w w' : World} {is r : List Nat} {F : Nat → Value → Nat → World → Prop} {act : (Nat → Value) → Act} {x : Nat → Value} {g : Nat → Nat} {i : Nat} {v : Value} {a' : Act}
    (hkeep : ∀ i v g w w', F i v g w → Chg NoF w w' → F i v g w') (hc0 : Chg NoF w0 w)
    (hF : ∀ i ∈ is, i ∉ r → F i (x i) (g i) w ∧ w0.heap.size ≤ g i ∧ g i < w.heap.size) (hd : ∀ i ∈ is, ∀ j ∈ is, i ∉ r → j ∉ r → i ≠ j → g i ≠ g j)
    (ha : a' = act (updV x i v)) (hc : Chg NoF w w') (hv : F i v w.heap.size w') (hlt : w.heap.size < w'.heap.size) : ManyJ w0 is F act (r.erase i) a' w' := by
  have h1 : ∀ j, j ∉ r.erase i → j ≠ i → j ∉ r := fun j hj hne hm => hj ((List.mem_erase_of_ne hne).2 hm)
  refine ⟨updV x i v, fun j => if j = i then w.heap.size else g j, ha, hc0.trans hc, fun j hj hn => ?_, fun j hj k hk hjn hkn hne => ?_⟩
  · by_cases e : j = i
    · subst e
      simp only [updV, if_pos]
      exact ⟨hv, hc0.size, hlt⟩
    · simp only [updV, if_neg e]
      obtain ⟨h2, h3, h4⟩ := hF j hj (h1 j hn e)
      exact ⟨hkeep _ _ _ _ _ h2 hc, h3, Nat.lt_of_lt_of_le h4 hc.size⟩
  · by_cases e1 : j = i
    · by_cases e2 : k = i
      · exact absurd (e1.trans e2.symm) hne
      · have := (hF k hk (h1 k hkn e2)).2.2
        simp only [if_pos e1, if_neg e2]; omega
    · by_cases e2 : k = i
      · have := (hF j hj (h1 j hjn e1)).2.2
        simp only [if_pos e2, if_neg e1]; omega
      · simp only [if_neg e1, if_neg e2]
        exact hd j hj k hk (h1 j hjn e1) (h1 k hkn e2) hne

/-- Those operations ds (number and where its value goes), whose values are told by F. -/
theorem wpMany_mk {P : Program} {Q : Exit → Act → World → Prop} {S : World → Prop} {L : Nat} {l : List Oper} {p : Pl} {a : Act} {w : World} (w0 : World) (F : Nat → Value → Nat → World → Prop) (ds : List (Nat × Option Tmp))
    (hkeep : ∀ i v g w w', F i v g w → Chg NoF w w' → F i v g w') (ha : a = ds.foldl (fun a d => a.put d.2 undef) a) (hc : Chg NoF w0 w)
    (hstep : ∀ (r : List Nat) (x : Nat → Value) (w1 : World) (i : Nat), i ∈ ds.map Prod.fst → Chg NoF w0 w1 →
      (∀ (v : Value) (a' : Act) (w2 : World), a' = ds.foldl (fun a d => a.put d.2 (updV x i v d.1)) a → Chg NoF w1 w2 → F i v w1.heap.size w2 → w1.heap.size < w2.heap.size → ManyJ w0 (ds.map Prod.fst) F (fun x => ds.foldl (fun a d => a.put d.2 (x d.1)) a) (r.erase i) a' w2) →
      loud P l.toArray Q S L i (opAt l i) (ManyJ w0 (ds.map Prod.fst) F (fun x => ds.foldl (fun a d => a.put d.2 (x d.1)) a) (r.erase i)) (ds.foldl (fun a d => a.put d.2 (x d.1)) a) w1)
    (hend : ∀ (x : Nat → Value) (g : Nat → Nat) (w1 : World), Chg NoF w0 w1 → (∀ i ∈ ds.map Prod.fst, F i (x i) (g i) w1 ∧ w0.heap.size ≤ g i ∧ g i < w1.heap.size) → (∀ i ∈ ds.map Prod.fst, ∀ j ∈ ds.map Prod.fst, i ≠ j → g i ≠ g j) →
      wpPl P l Q S L p (ds.foldl (fun a d => a.put d.2 (x d.1)) a) w1) : wpMany P l Q S L (ds.map Prod.fst) p a w := by
  refine ⟨ManyJ w0 (ds.map Prod.fst) F (fun x => ds.foldl (fun a d => a.put d.2 (x d.1)) a), ManyJ.start ha hc, fun r i a1 w1 hi hr h => ?_, fun a1 w1 hS h => ?_⟩
  · obtain ⟨x, g, rfl, hc0, hF, hd⟩ := h
    exact hstep r x w1 i hi hc0 fun v a' w2 ha' hc' hv hlt => ManyJ.step hkeep hc0 hF hd ha' hc' hv hlt
  · obtain ⟨x, g, rfl, hc0, hF, hd⟩ := h
    exact hend x g w1 hc0 (fun i hi => hF i hi (by simp)) (fun i hi j hj hne => hd i hi j hj (by simp) (by simp) hne)

theorem put_put (a : Act) (t : Tmp) (v u : Value) : (a.put (some t) v).put (some t) u = a.put (some t) u := by
  simp [Act.put]
theorem put_comm (a : Act) {t t' : Tmp} (h : t ≠ t') (v u : Value) : (a.put (some t) v).put (some t') u = (a.put (some t') u).put (some t) v := by
  simp only [Act.put]
  rw [Array.setIfInBounds_comm _ _ h]

def putAll (ds : List (Nat × Tmp)) (x : Nat → Value) (a : Act) : Act := ds.foldl (fun a d => a.put (some d.2) (x d.1)) a

theorem putAll_put : ∀ (ds : List (Nat × Tmp)) (x : Nat → Value) (a : Act) (t : Tmp) (v : Value), t ∉ ds.map Prod.snd → (putAll ds x a).put (some t) v = putAll ds x (a.put (some t) v)
  | [], _, _, _, _, _ => rfl
  | d :: ds, x, a, t, v, h => by
    have h1 : t ≠ d.2 := fun e => h (by rw [e]; exact List.mem_cons_self)
    have h2 : t ∉ ds.map Prod.snd := fun e => h (List.mem_cons_of_mem _ e)
    show (putAll ds x (a.put (some d.2) (x d.1))).put (some t) v = putAll ds x ((a.put (some t) v).put (some d.2) (x d.1))
    rw [putAll_put ds x _ t v h2, put_comm _ h1]
theorem putAll_congr : ∀ (ds : List (Nat × Tmp)) (x y : Nat → Value) (a : Act), (∀ d ∈ ds, x d.1 = y d.1) → putAll ds x a = putAll ds y a
  | [], _, _, _, _ => rfl
  | d :: ds, x, y, a, h => by
    show putAll ds x (a.put (some d.2) (x d.1)) = putAll ds y (a.put (some d.2) (y d.1))
    rw [h d List.mem_cons_self]
    exact putAll_congr ds x y _ fun d' hd' => h d' (List.mem_cons_of_mem _ hd')
theorem putAll_upd : ∀ (ds : List (Nat × Tmp)) (x : Nat → Value) (a : Act) (d : Nat × Tmp) (v : Value), d ∈ ds → (ds.map Prod.fst).Nodup → (ds.map Prod.snd).Nodup → (putAll ds x a).put (some d.2) v = putAll ds (updV x d.1 v) a
  | [], _, _, _, _, h, _, _ => by cases h
  | d0 :: ds, x, a, d, v, h, h1, h2 => by
    simp only [List.map_cons, List.nodup_cons] at h1 h2
    show (putAll ds x (a.put (some d0.2) (x d0.1))).put (some d.2) v = putAll ds (updV x d.1 v) (a.put (some d0.2) (updV x d.1 v d0.1))
    rcases List.mem_cons.1 h with rfl | hm
    · rw [putAll_put ds x _ _ v h2.1, put_put]
      have e : updV x d.1 v d.1 = v := by simp [updV]
      rw [e]
      exact putAll_congr ds x _ _ fun d' hd' => by
        have : d'.1 ≠ d.1 := fun e' => h1.1 (by rw [← e']; exact List.mem_map_of_mem hd')
        simp [updV, this]
    · have e : updV x d.1 v d0.1 = x d0.1 := by
        have : d0.1 ≠ d.1 := fun e' => h1.1 (by rw [e']; exact List.mem_map_of_mem hm)
        simp [updV, this]
      rw [e]
      exact putAll_upd ds x _ d v hm h1.2 h2.2

/-- Those operations ds (number and where its value goes), whose values are told by F; what is to come is any J. -/
theorem wpMany_mk2 {P : Program} {Q : Exit → Act → World → Prop} {S : World → Prop} {L : Nat} {l : List Oper} {p : Pl} {a : Act} {w : World} (w0 : World) (F : Nat → Value → Nat → World → Prop) (ds : List (Nat × Tmp))
    (hn1 : (ds.map Prod.fst).Nodup) (hn2 : (ds.map Prod.snd).Nodup)
    (hkeep : ∀ i v g w w', F i v g w → Chg NoF w w' → F i v g w') (ha : a = putAll ds (fun _ => undef) a) (hc : Chg NoF w0 w)
    (hstep : ∀ (J : Act → World → Prop) (x : Nat → Value) (a1 : Act) (w1 : World) (d : Nat × Tmp), d ∈ ds → a1 = putAll ds x a → Chg NoF w0 w1 →
      (∀ (v : Value) (w2 : World), Chg NoF w1 w2 → F d.1 v w1.heap.size w2 → w1.heap.size < w2.heap.size → J (a1.put (some d.2) v) w2) → loud P l.toArray Q S L d.1 (opAt l d.1) J a1 w1)
    (hend : ∀ (x : Nat → Value) (g : Nat → Nat) (a1 : Act) (w1 : World), a1 = putAll ds x a → Chg NoF w0 w1 → (∀ i ∈ ds.map Prod.fst, F i (x i) (g i) w1 ∧ w0.heap.size ≤ g i ∧ g i < w1.heap.size) → (∀ i ∈ ds.map Prod.fst, ∀ j ∈ ds.map Prod.fst, i ≠ j → g i ≠ g j) →
      wpPl P l Q S L p a1 w1) : wpMany P l Q S L (ds.map Prod.fst) p a w := by
  refine ⟨ManyJ w0 (ds.map Prod.fst) F (fun x => putAll ds x a), ManyJ.start ha hc, fun r i a1 w1 hi hr h => ?_, fun a1 w1 hS h => ?_⟩
  · obtain ⟨x, g, rfl, hc0, hF, hd⟩ := h
    obtain ⟨d, hdm, rfl⟩ := List.mem_map.1 hi
    exact hstep _ x _ w1 d hdm rfl hc0 fun v w2 hc' hv hlt => ManyJ.step hkeep hc0 hF hd (putAll_upd ds x a d v hdm hn1 hn2) hc' hv hlt
  · obtain ⟨x, g, rfl, hc0, hF, hd⟩ := h
    exact hend x g _ w1 rfl hc0 (fun i hi => hF i hi (by simp)) (fun i hi j hj hne => hd i hi j hj (by simp) (by simp) hne)

end Go.Proofs.YtckgkgaoioigdaaDoor
