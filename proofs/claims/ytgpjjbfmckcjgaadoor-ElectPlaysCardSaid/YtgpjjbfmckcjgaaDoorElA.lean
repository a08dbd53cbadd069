/-
  The ring that chooses: how it lies in memory, and what its methods do to it.
  Conditions: a ring as New made it; fewer than 1000000 names were sent.
-/
import Derived.Test.YtgpjjbfmckcjgaaDoorRows
import Derived.Test.YtgpjjbfmckcjgaaDoorRegion2
import Derived.Test.YtgpjjbfmckcjgaaDoorSame
namespace Go.Proofs.YtgpjjbfmckcjgaaDoor
open Go Go.RowKit

structure Ring where
  names : List Int
  begun : List Bool
  ways : List (List Int)
  leader : Int
  sent : Nat

/-- How a ring lies in memory. -/
structure RingAt (S : Nat → Prop) (w : World) (t : Nat) (s : Ring) (N B W : Value) (M : Nat → Value) (tag : Nat → Nat) : Prop where
  hS : ∀ b, S b → tag b = 0
  ht : tag t = 1
  blk : Blk w t [N, B, W, .int .i64 s.leader, .int .i64 s.sent]
  names : Own w tag 2 3 1 N s.names.length (s.names.map (.int .i64))
  begun : Own w tag 3 4 1 B s.names.length (s.begun.map .bool)
  ways : Own w tag 4 22 1 W s.names.length ((List.range s.names.length).map M)
  msgs : ∀ i, i < s.names.length → Own w tag (5 + i) 3 1 (M i) (s.ways.getD i []).length ((s.ways.getD i []).map (.int .i64))
  lens : s.begun.length = s.names.length ∧ s.ways.length = s.names.length ∧ 0 < s.names.length ∧ s.names.length ≤ 5

/-- A store into the ring's own cells. -/
theorem RingAt.set {S : Nat → Prop} {w : World} {t : Nat} {s : Ring} {N B W : Value} {M : Nat → Value} {tag : Nat → Nat} (h : RingAt S w t s N B W M tag) (j : Nat) (u : Value) (s' : Ring)
    (h1 : s'.names = s.names) (h2 : s'.begun = s.begun) (h3 : s'.ways = s.ways) (hb : ([N, B, W, .int .i64 s.leader, .int .i64 s.sent] : List Value).set j u = [N, B, W, .int .i64 s'.leader, .int .i64 s'.sent]) :
    RingAt S (w.setCell ⟨t, j, none⟩ u) t s' N B W M tag where
  hS := h.hS
  ht := h.ht
  blk := by rw [← hb]; exact h.blk.set j u
  names := by rw [h1]; exact h.names.keep (setCell_chg _ _ _) (fun b hb => by rw [hb]; show tag t ≠ _; rw [h.ht]; omega) (fun _ _ => rfl)
  begun := by rw [h1, h2]; exact h.begun.keep (setCell_chg _ _ _) (fun b hb => by rw [hb]; show tag t ≠ _; rw [h.ht]; omega) (fun _ _ => rfl)
  ways := by rw [h1]; exact h.ways.keep (setCell_chg _ _ _) (fun b hb => by rw [hb]; show tag t ≠ _; rw [h.ht]; omega) (fun _ _ => rfl)
  msgs := by rw [h1, h3]; exact fun i hi => (h.msgs i hi).keep (setCell_chg _ _ _) (fun b hb => by rw [hb]; show tag t ≠ _; rw [h.ht]; omega) (fun _ _ => rfl)
  lens := by rw [h1, h2, h3]; exact h.lens

/-- A store into who began. -/
theorem RingAt.setBegun {S : Nat → Prop} {w : World} {t : Nat} {s : Ring} {N W : Value} {M : Nat → Value} {tag : Nat → Nat} {gB cB : Nat} (h : RingAt S w t s N (.slice (some ⟨gB, 0, none⟩) s.names.length cB) W M tag) (i : Nat) (u : Bool) :
    RingAt S (w.setCell ⟨gB, i, none⟩ (.bool u)) t { s with begun := s.begun.set i u } N (.slice (some ⟨gB, 0, none⟩) s.names.length cB) W M tag := by
  have hc : Chg (fun k => k = gB) w (w.setCell ⟨gB, i, none⟩ (.bool u)) := setCell_chg w ⟨gB, i, none⟩ _
  have tB : tag gB = 3 := h.begun.tag gB rfl
  exact {
    hS := h.hS
    ht := h.ht
    blk := h.blk.keep hc (fun hf => by have := h.ht; rw [show t = gB from hf] at this; omega)
    names := h.names.keep hc (fun b hb => by rw [show b = gB from hb]; omega) (fun _ _ => rfl)
    begun := by
      have := h.begun.stored i (.bool u)
      rw [List.map_set]; exact this
    ways := h.ways.keep hc (fun b hb => by rw [show b = gB from hb]; omega) (fun _ _ => rfl)
    msgs := fun j hj => (h.msgs j hj).keep hc (fun b hb => by rw [show b = gB from hb]; omega) (fun _ _ => rfl)
    lens := by simpa using h.lens }

/-- A way's slice is another one, and stored. -/
theorem RingAt.setWay {S : Nat → Prop} {w w1 : World} {t : Nat} {s : Ring} {N B : Value} {M : Nat → Value} {tag : Nat → Nat} {gW cW : Nat} (h : RingAt S w t s N B (.slice (some ⟨gW, 0, none⟩) s.names.length cW) M tag)
    {i : Nat} (hi : i < s.names.length) (hc : Chg (fun k => (M i).ownBlock = some k) w w1) (v : Value) (l : List Int) (ho : w1.ownsRow 0 3 1 v l.length (l.map (.int .i64))) (hb : ∀ k, v.ownBlock = some k → (M i).ownBlock = some k ∨ w.heap.size ≤ k) (hSlt : ∀ b, S b → b < w.heap.size) :
    RingAt S (w1.setCell ⟨gW, i, none⟩ v) t { s with ways := s.ways.set i l } N B (.slice (some ⟨gW, 0, none⟩) s.names.length cW) (fun j => if j = i then v else M j) (retagO tag v.ownBlock (5 + i)) := by
  have tM : ∀ k, (M i).ownBlock = some k → tag k = 5 + i := (h.msgs i hi).tag
  have hold : ∀ b, b < w.heap.size → retagO tag v.ownBlock (5 + i) b = tag b := fun b hb' => retagO_old hb tM hb'
  have tW : tag gW = 4 := h.ways.tag gW rfl
  have ltW : gW < w.heap.size := h.ways.lt gW rfl
  have hc2 : Chg (fun k => k = gW) w1 (w1.setCell ⟨gW, i, none⟩ v) := setCell_chg w1 ⟨gW, i, none⟩ v
  have hold1 : ∀ b, b < w.heap.size → retagO tag v.ownBlock (5 + i) b = tag b := hold
  have two : ∀ {r e k n : Nat} {u : Value} {xs : List Value}, Own w tag r e k u n xs → r ≠ 5 + i → r ≠ 4 → Own (w1.setCell ⟨gW, i, none⟩ v) (retagO tag v.ownBlock (5 + i)) r e k u n xs := fun {r e k n u xs} ho hr5 hr4 =>
    ⟨hc2.row (hc.row ho.row fun b hb hf => hr5 (by rw [← tM b hf]; exact (ho.tag b hb).symm)) (fun b hb hf => hr4 (by rw [← tW, ← (show b = gW from hf)]; exact (ho.tag b hb).symm)), fun b hb => by rw [hold b (ho.lt b hb)]; exact ho.tag b hb⟩
  refine ⟨fun b hb => by rw [hold b (hSlt b hb)]; exact h.hS b hb, by rw [hold t h.blk.lt]; exact h.ht, ?_, two h.names (by omega) (by omega), two h.begun (by omega) (by omega), ?_, ?_, by simpa using h.lens⟩
  · refine (h.blk.keep hc (fun hf => ?_)).keep hc2 (fun hf => ?_)
    · have := tM t hf; have := h.ht; omega
    · have := h.ht; rw [show t = gW from hf] at this; omega
  · have hW1 : w1.ownsRow 0 22 1 (.slice (some ⟨gW, 0, none⟩) s.names.length cW) s.names.length ((List.range s.names.length).map M) := hc.row h.ways.row (fun b hb hf => by
      have h1 := tM b hf; have h2 := h.ways.tag b hb; omega)
    refine ⟨?_, fun b hb => by rw [hold b (h.ways.lt b hb)]; exact h.ways.tag b hb⟩
    have := (hW1.stored i v).1
    rw [map_range_set M _ i v hi] at this
    exact this
  · intro j hj
    by_cases hji : j = i
    · subst hji
      have e1 : (s.ways.set j l).getD j [] = l := by simp [h.lens.2.1 ▸ hj]
      simp only [if_true, e1]
      exact ⟨hc2.row ho (fun b hb' hf => by
        rcases hb b hb' with h1 | h1
        · have := tM b h1; rw [show b = gW from hf] at this; omega
        · have : b = gW := hf; omega), fun b hb' => by simp [retagO, hb']⟩
    · have e1 : (s.ways.set i l).getD j [] = s.ways.getD j [] := by simp [List.getD, List.getElem?_set_ne (Ne.symm hji)]
      simp only [if_neg hji, e1]
      exact two (h.msgs j hj) (by omega) (by omega)

/-- Where a name goes. -/
def Ring.next (s : Ring) (i : Nat) : Nat := (i + 1) % s.names.length
def Ring.send (s : Ring) (i : Nat) (name : Int) : Ring := { s with ways := s.ways.set (s.next i) (s.ways.getD (s.next i) [] ++ [name]), sent := s.sent + 1 }

/-- No way is longer than how many names were sent. -/
def Ring.Bnd (s : Ring) : Prop := ∀ i, (s.ways.getD i []).length ≤ s.sent

theorem getD_setL {α : Type} {l : List α} {i j : Nat} {x d : α} (hi : i < l.length) : (l.set i x).getD j d = if i = j then x else l.getD j d := by
  simp only [List.getD, List.getElem?_set]
  split
  · rename_i h; subst h; simp
  · rfl

theorem Ring.Bnd.send {s : Ring} (h : s.Bnd) (hl : s.ways.length = s.names.length) (h0 : 0 < s.names.length) (i : Nat) (name : Int) : (s.send i name).Bnd := by
  intro j
  have hn : s.next i < s.ways.length := by rw [hl]; exact Nat.mod_lt _ h0
  show ((s.ways.set _ _).getD j []).length ≤ s.sent + 1
  rw [getD_setL hn]
  split
  · have := h (s.next i); rw [List.length_append, List.length_singleton]; omega
  · have := h j; omega

def RingIn (S : Nat → Prop) (w : World) (t : Nat) (s : Ring) : Prop := (∀ b, S b → b < w.heap.size) ∧ s.Bnd ∧ ∃ N B W M tag, RingAt S w t s N B W M tag

theorem RingAt.chg {S : Nat → Prop} {w : World} {t : Nat} {s : Ring} {N B W : Value} {M : Nat → Value} {tag : Nat → Nat} (h : RingAt S w t s N B W M tag) {b : Nat} (hb : tag b ≠ 0) : ¬ S b := fun hs => hb (h.hS b hs)

set_option maxHeartbeats 1000000 in
set_option maxRecDepth 100000 in
theorem send_raw (S : Nat → Prop) (w : World) (t : Nat) (s : Ring) (h : RingIn S w t s) (i : Nat) (name : Int) (hi : i < s.names.length)
    (hsent : (s.sent : Int) < 1000000) :
    Calls Tryd.prog 32 #[.pointer (some ⟨t, 0, none⟩), .int .i64 i, .int .i64 name] w fun e w' => e = .returned (.tuple #[]) ∧ RingIn S w' t (s.send i name) ∧ Chg (fun k => ¬ S k) w w' := by
  obtain ⟨hSlt, hBnd, N, B, W, M, tag, h⟩ := h
  have hlen : (s.ways.getD (s.next i) []).length < 1000000 := by have := hBnd (s.next i); omega
  have HB := Lib.hid (hBnd.send h.lens.2.1 h.lens.2.2.1 i name)
  clear hBnd
  obtain ⟨hl1, hl2, hl3, hl4⟩ := h.lens
  obtain ⟨gW, cW, rfl, tW, ltW, _, _, _, hWc, hWf⟩ := h.ways.form' hl3
  obtain ⟨gN, cN, rfl, tN, ltN, _, _, _, hNc, hNf⟩ := h.names.form' hl3
  have c0 : w.cell? ⟨t, 0, none⟩ = some (.slice (some ⟨gN, 0, none⟩) s.names.length cN) := h.blk.cell 0
  have c2 : w.cell? ⟨t, 2, none⟩ = some (.slice (some ⟨gW, 0, none⟩) s.names.length cW) := h.blk.cell 2
  obtain ⟨to, hto, hlt, HT⟩ : ∃ to : Nat, ((i : Int) + 1) % (s.names.length : Int) = to ∧ to < s.names.length ∧ Hid (s.next i = to) := ⟨s.next i, by unfold Ring.next; push_cast; rfl, Nat.mod_lt _ hl3, Lib.hid rfl⟩
  have cM : w.cell? ⟨gW, to, none⟩ = some (M to) := by rw [hWc to (by omega)]; simp [hlt]
  have hto0 : (0 : Int) ≤ to := by omega
  have hto1 : (to : Int) < s.names.length := by omega
  go_enter Tryd.func32, Tryd.ntmps32
  go_wp2
  have nt : ¬ (M to).ownBlock = some t := fun hf => by have := (h.msgs to hlt).tag t hf; have := h.ht; omega
  have nW : ¬ (M to).ownBlock = some gW := fun hf => by have := (h.msgs to hlt).tag gW hf; omega
  rw [HT.out] at hlen
  obtain ⟨l, HL⟩ : ∃ l, Hid (s.ways.getD to [] = l) := ⟨_, Lib.hid rfl⟩
  have hM : Own w tag (5 + to) 3 1 (M to) l.length (l.map (.int .i64)) := HL.out ▸ h.msgs to hlt
  rw [HL.out] at hlen
  refine wp_region_plan (Chg (fun k => (M to).ownBlock = some k) w) 16
    [(0,true),(1,true),(2,true),(3,true),(4,true),(5,true),(6,true),(7,true),(8,true),(9,true),(10,true),(11,true),(12,true),(13,false),(14,false),(15,true),(16,false)] mixed (by kernel_rfl) (Chg.refl _ w).drew ?_
  simp only [planOps, List.map_cons, List.map_nil, List.getElem?_cons_zero, List.getElem?_cons_succ, Option.getD_some]
  generalize List.toArray _ = ops
  iterate 13 (refine wpPlan_quiet (v := ?_) rfl (fun _ _ _ h => h) (by intro w1 hS; have s1 := hS.cell_some c2 nt; have s2 := hS.cell_some cM nW; clear hS; go_simp; with_reducible rfl) ?_; (simp only [Act.put, List.setIfInBounds_toArray, List.set_cons_zero, List.set_cons_succ]))
  refine wpPlan_loud rfl (fun K hK => ?_)
  go_simp
  refine hK _ _ (fun _ => ((Chg.refl _ w).alloc _).drew) ?_
  clear hK K
  refine wpPlan_loud rfl (fun K hK => ?_)
  obtain ⟨i0, ii, iz, is, ib⟩ := info_parts infoInt
  refine wp_append_lies _ _ _ 22 rfl 0 3 i0 (.int .i64 0) 1 8 Tryd.underlying22 ii iz is ib rfl (by decide) (M to) _ _ (by rfl) (hM.row.alloc _).drew ⟨w.heap.size, 0, none⟩ 1 1 [.int .i64 name] (by rfl) (by rfl) (World.news_of_block (cs := #[.int .i64 name]) (t := 3) (fr := (0, 0)) (heap_alloc_new w _)) (by simp [Value.oneCell']) (by omega) (by unfold maxLen; omega) (by omega) (by simp) _ rfl ?_
  intro g cap w1 hown hgrow hat hlt1
  have hc1 : Chg (fun k => (M to).ownBlock = some k) w w1 := (((Chg.refl _ w).alloc _).drew).grown hgrow (fun k hk => .inl hk)
  have hnb : ∀ k, (Value.slice (some ⟨g, 0, none⟩) (l.length + 1) cap).ownBlock = some k → (M to).ownBlock = some k ∨ w.heap.size ≤ k := fun k hk => by
    obtain rfl : g = k := by simpa [Value.ownBlock] using hk
    rcases hat with h1 | h1
    · exact .inl h1
    · right; rw [h1]; simp
  refine hK _ _ (fun _ => hc1) ?_
  clear hK K
  (simp only [Act.put, List.setIfInBounds_toArray, List.set_cons_zero, List.set_cons_succ])
  refine wpPlan_quiet (v := ?_) rfl (fun _ _ _ h => h) (by intro w1 hS; have s1 := hS.cell_some c2 nt; have s2 := hS.cell_some cM nW; clear hS; go_simp; with_reducible rfl) ?_; (simp only [Act.put, List.setIfInBounds_toArray, List.set_cons_zero, List.set_cons_succ])
  refine wpPlan_loud rfl (fun K hK => ?_)
  have s2 := hc1.cell_some cM nW
  have f2 : w1.frozen? ⟨gW, to, none⟩ = false := by rw [World.frozen?_of_block (hc1.block gW ltW nW)]; exact hWf to
  go_simp
  refine hK _ _ (fun h => absurd rfl h) ?_
  clear hK K
  refine wpPlan_nil ?_
  have hR := h.setWay hlt hc1 _ (l ++ [name]) (by simpa using hown) hnb hSlt
  have hc2 : Chg (fun k => ¬ S k) w (w1.setCell ⟨gW, to, none⟩ (.slice (some ⟨g, 0, none⟩) (l.length + 1) cap)) :=
    (hc1.mono fun k _ hk => h.chg (by rw [(h.msgs to hlt).tag k hk]; omega)).setCell (.inl (h.chg (by show tag gW ≠ 0; omega))) _
  have hsz := hc2.size
  clear s2 f2 hnb hat hown hgrow
  generalize w1.setCell ⟨gW, to, none⟩ _ = w2 at *
  have c4 : w2.cell? ⟨t, 4, none⟩ = some (.int .i64 s.sent) := hR.blk.cell 4
  have f4 : w2.frozen? ⟨t, 4, none⟩ = false := hR.blk.frozen 4
  clear hc1 hlt1
  go_wp2
  go_end0
  refine ⟨rfl, ⟨?_, HB.out, ?_⟩, ?_⟩
  · intro b hb; have := hSlt b hb; simp [World.setCell]; omega
  · exact ⟨_, _, _, _, _, hR.set 4 (.int .i64 ((s.sent : Int) + 1)) (s.send i name) rfl rfl (by simp only [Ring.send, HT.out, HL.out]) (by simp [Ring.send])⟩
  · exact hc2.setCell (.inl (h.chg (by show tag t ≠ 0; rw [h.ht]; omega))) _
/-! ### The plain ring -/
def Ring.mark (s : Ring) (i : Nat) : Ring := { s with begun := s.begun.set i true }
def Ring.name (s : Ring) (i : Nat) : Int := s.names.getD i 0
def Ring.way (s : Ring) (i : Nat) : List Int := s.ways.getD i []
def Ring.has (s : Ring) (i : Int) : Bool := inB i 0 ((s.names.length : Int) - 1)
def Ring.bgErr (s : Ring) (i : Int) : Int := if s.has i = false then 1 else if s.begun.getD i.toNat false = true then 7 else 0
def Ring.beg (s : Ring) (i : Int) : Ring := if s.bgErr i = 0 then (s.mark i.toNat).send i.toNat (s.name i.toNat) else s
def Ring.stErr (s : Ring) (i : Int) : Int := if s.has i = false then 1 else if s.way i.toNat = [] then 5 else 0
def Ring.pop (s : Ring) (i : Nat) : Ring := { s with ways := s.ways.set i (s.way i).tail }
def Ring.hear (s : Ring) (i : Nat) (x : Int) : Ring :=
  if x = s.name i then { s with leader := i } else if s.name i < x then (s.mark i).send i x else if s.begun.getD i false = false then (s.mark i).send i (s.name i) else s
def Ring.step (s : Ring) (i : Int) : Ring := if s.stErr i = 0 then (s.pop i.toNat).hear i.toNat ((s.way i.toNat).headD 0) else s
def Ring.init (names : List Int) : Ring := { names := names, begun := List.replicate names.length false, ways := List.replicate names.length [], leader := -1, sent := 0 }

set_option maxHeartbeats 1000000 in
theorem is_any (S : Nat → Prop) (w : World) (t : Nat) (s : Ring) (h : RingIn S w t s) (i : Int) :
    Calls Tryd.prog 31 #[.pointer (some ⟨t, 0, none⟩), .int .i64 i] w fun e w' => e = .returned (.bool (s.has i)) ∧ w = w' := by
  obtain ⟨hSlt, hBnd, N, B, W, M, tag, h⟩ := h
  obtain ⟨hl1, hl2, hl3, hl4⟩ := h.lens
  obtain ⟨gN, cN, rfl, tN, ltN, _, _, _, hNc, hNf⟩ := h.names.form' hl3
  have c0 : w.cell? ⟨t, 0, none⟩ = some (.slice (some ⟨gN, 0, none⟩) s.names.length cN) := h.blk.cell 0
  have HR : Hid (s.has i = inB i 0 ((s.names.length : Int) - 1)) := Lib.hid rfl
  rw [HR.out]
  obtain ⟨n, hN⟩ : ∃ n, Hid (s.names.length = n) := ⟨_, Lib.hid rfl⟩
  rw [hN.out] at c0 hl3 hl4 ⊢
  clear hNc hNf hl1 hl2 hBnd hSlt h HR
  go_enter Tryd.func31, Tryd.ntmps31
  go_wp2_with (go_at_call 25; refine (within_any _ _ _ _).mono ?_; rintro e w' ⟨rfl, rfl⟩)
  go_ret
  exact ⟨rfl, rfl⟩

/-- What a begin that is refused, and one that is done, leaves. -/
def BegPost (S : Nat → Prop) (w : World) (t : Nat) (s : Ring) (i : Int) (e : Ending) (w' : World) : Prop :=
  e = .returned (errV (s.bgErr i)) ∧ RingIn S w' t (s.beg i) ∧ Chg (fun k => ¬ S k) w w'

set_option maxHeartbeats 2000000 in
set_option maxRecDepth 100000 in
theorem begin_any (S : Nat → Prop) (w : World) (t : Nat) (s : Ring) (h : RingIn S w t s) (i : Int) (hsent : (s.sent : Int) < 1000000) :
    Calls Tryd.prog 9 #[.pointer (some ⟨t, 0, none⟩), .int .i64 i] w (BegPost S w t s i) := by
  have HIN := Lib.hid h
  have HIS := Lib.hid (is_any S w t s h i)
  cases hh : s.has i with
  | false =>
    have hE : Hid (s.bgErr i = 1) := Lib.hid (by unfold Ring.bgErr; rw [if_pos hh])
    have hR : Hid (s.beg i = s) := Lib.hid (by unfold Ring.beg; rw [hE.out]; rfl)
    rw [hh] at HIS
    clear h hh
    go_enter Tryd.func9, Tryd.ntmps9
    go_wp2_with (go_at_call 31; refine HIS.out.mono ?_; rintro e w' ⟨rfl, rfl⟩)
    go_ret
    exact ⟨by rw [hE.out]; rfl, by rw [hR.out]; exact HIN.out, Chg.refl _ _⟩
  | true =>
    rw [hh] at HIS
    have hib : 0 ≤ i ∧ i ≤ (s.names.length : Int) - 1 := by simpa [Ring.has, inB] using hh
    obtain ⟨k, rfl⟩ := Int.eq_ofNat_of_zero_le hib.1
    obtain ⟨hSlt, hBnd, N, B, W, M, tag, h⟩ := h
    obtain ⟨hl1, hl2, hl3, hl4⟩ := h.lens
    obtain ⟨gN, cN, rfl, tN, ltN, _, _, _, hNc, hNf⟩ := h.names.form' hl3
    obtain ⟨gB, cB, rfl, tB, ltB, _, _, _, hBc, hBf⟩ := h.begun.form' hl3
    have c0 : w.cell? ⟨t, 0, none⟩ = some (.slice (some ⟨gN, 0, none⟩) s.names.length cN) := h.blk.cell 0
    have c1 : w.cell? ⟨t, 1, none⟩ = some (.slice (some ⟨gB, 0, none⟩) s.names.length cB) := h.blk.cell 1
    have hk : k < s.names.length := by omega
    obtain ⟨nm, hNM⟩ : ∃ nm, Hid (s.name k = nm) := ⟨_, Lib.hid rfl⟩
    obtain ⟨bg, hBG⟩ : ∃ bg, Hid (s.begun.getD k false = bg) := ⟨_, Lib.hid rfl⟩
    have cB1 : w.cell? ⟨gB, k, none⟩ = some (.bool bg) := by rw [hBc k (by omega), ← hBG.out]; simp [List.getD, hl1, hk]
    have cN1 : w.cell? ⟨gN, k, none⟩ = some (.int .i64 nm) := by rw [hNc k (by omega), ← hNM.out]; simp [Ring.name, List.getD, hk]
    have fB1 : w.frozen? ⟨gB, k, none⟩ = false := hBf k
    cases bg with
    | true =>
      have hE : Hid (s.bgErr k = 7) := Lib.hid (by unfold Ring.bgErr; rw [if_neg (by simp [hh]), if_pos (by simpa using hBG.out)])
      have hR : Hid (s.beg k = s) := Lib.hid (by unfold Ring.beg; rw [hE.out]; rfl)
      obtain ⟨n, hN⟩ : ∃ n, Hid (s.names.length = n) := ⟨_, Lib.hid rfl⟩
      rw [hN.out] at c0 c1 hl3 hl4 hk
      have hk1 : (k : Int) < n := by omega
      clear hNc hNf hBc hBf hl1 hl2 hBnd hSlt h hh hib
      go_enter Tryd.func9, Tryd.ntmps9
      go_wp2_with (go_at_call 31; refine HIS.out.mono ?_; rintro e w' ⟨rfl, rfl⟩)
      go_ret
      exact ⟨by rw [hE.out]; rfl, by rw [hR.out]; exact HIN.out, Chg.refl _ _⟩
    | false =>
      have hE : Hid (s.bgErr k = 0) := Lib.hid (by unfold Ring.bgErr; rw [if_neg (by simp [hh]), if_neg (by have := hBG.out; simp at this; simp [this])])
      have hR : Hid (s.beg k = (s.mark k).send k nm) := Lib.hid (by unfold Ring.beg; rw [hE.out]; simp [hNM.out])
      have hS2 := h.setBegun k true
      have hc1 : Chg (fun k => ¬ S k) w (w.setCell ⟨gB, k, none⟩ (.bool true)) := (Chg.refl _ w).setCell (.inl (h.chg (by show tag gB ≠ 0; omega))) _
      have hc1' : Chg (fun k => k = gB) w (w.setCell ⟨gB, k, none⟩ (.bool true)) := setCell_chg w ⟨gB, k, none⟩ _
      have htB : ¬ t = gB := fun e => by have := h.ht; rw [e] at this; omega
      have hNB : ¬ gN = gB := fun e => by rw [e] at tN; omega
      have d0 := hc1'.cell_some c0 htB
      have dN := hc1'.cell_some cN1 hNB
      have hin2 : RingIn S (w.setCell ⟨gB, k, none⟩ (.bool true)) t (s.mark k) := ⟨fun b hb => by have := hSlt b hb; have := hc1.size; omega, hBnd, _, _, _, _, _, hS2⟩
      have HSEND := Lib.hid (send_raw S _ t (s.mark k) hin2 k nm hk hsent)
      have HC1 := Lib.hid hc1
      obtain ⟨n, hN⟩ : ∃ n, Hid (s.names.length = n) := ⟨_, Lib.hid rfl⟩
      rw [hN.out] at c0 c1 hl3 hl4 hk d0
      have hk1 : (k : Int) < n := by omega
      clear hNc hNf hBc hBf hl1 hl2 hBnd hSlt h hh hib hS2 hc1 hc1' hin2 c0
      go_enter Tryd.func9, Tryd.ntmps9
      go_wp2_with (go_at_call 31; refine HIS.out.mono ?_; rintro e w' ⟨rfl, rfl⟩)
      refine HSEND.out.mono ?_
      rintro e w1 ⟨rfl, hin1, hc2⟩
      go_wp2
      go_ret
      exact ⟨by rw [hE.out]; rfl, by rw [hR.out]; exact hin1, HC1.out.trans hc2⟩

end Go.Proofs.YtgpjjbfmckcjgaaDoor
