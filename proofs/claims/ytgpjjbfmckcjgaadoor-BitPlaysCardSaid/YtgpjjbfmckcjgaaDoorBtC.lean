/-
  The line over two wires: what happens on it.
  Conditions: a line as New made it.
-/
import Derived.Test.YtgpjjbfmckcjgaaDoorBtB
namespace Go.Proofs.YtgpjjbfmckcjgaaDoor
open Go Go.RowKit

def BDoPost (S : Nat → Prop) (w : World) (t : Nat) (n : Int) (s' : BNet) (e : Ending) (w' : World) : Prop := e = .returned (errV n) ∧ BIn S w' t s' ∧ Chg (fun k => ¬ S k) w w'

def BIx.slot : BIx → Nat
  | .vals => 0
  | .got => 2
  | .forth => 3
  | .back => 4

/-- A slice is another one, in its old block or in a new one. -/
theorem BAt.putV {S : Nat → Prop} {w w1 w2 : World} {t : Nat} {s s' : BNet} {V : BIx → Value} {tag : Nat → Option (Option BIx)} (h : BAt S w t s V tag) (i : BIx) (hc0 : Chg NoF w w1) (hc : Chg (fun b => (V i).ownBlock = some b) w1 w2) (v : Value) (e k n : Nat) (xs : List Value) (ho : w2.ownsRow 0 e k v n xs)
    (hb : ∀ b, v.ownBlock = some b → (V i).ownBlock = some b ∨ w1.heap.size ≤ b) (hrow : s'.rows (upd V i v) i = ⟨e, k, v, n, xs⟩) (hoth : ∀ j, j ≠ i → s'.rows (upd V i v) j = s.rows V j) (hsent : s'.sent = s.sent) : ∃ tag', BAt S (w2.setCell ⟨t, i.slot, none⟩ v) t s' (upd V i v) tag' := by
  have hv : ∀ j, (s.rows V j).v = V j := fun j => by cases j <;> rfl
  have h1 := (h.more hc0).newRow i (w1 := w2) (by rw [hv]; exact hc) e k v n xs ho (by rw [hv]; exact hb)
  have h2 := h1.setTop i.slot v
  refine ⟨_, h2.congr ?_ fun j => ?_⟩
  · show (btop s V).set i.slot v = btop s' (upd V i v)
    unfold btop
    rw [hsent]
    cases i <;> rfl
  · by_cases e : j = i
    · subst e; rw [upd_self, hrow]
    · rw [upd_ne _ _ e, hoth j e]

theorem BAt.put {S : Nat → Prop} {w w1 w2 : World} {t : Nat} {s s' : BNet} {V : BIx → Value} {tag : Nat → Option (Option BIx)} (h : BAt S w t s V tag) (i : BIx) (hc0 : Chg NoF w w1) (hc : Chg (fun b => (V i).ownBlock = some b) w1 w2) (v : Value) (e k n : Nat) (xs : List Value) (ho : w2.ownsRow 0 e k v n xs)
    (hb : ∀ b, v.ownBlock = some b → (V i).ownBlock = some b ∨ w1.heap.size ≤ b) (hrow : s'.rows (upd V i v) i = ⟨e, k, v, n, xs⟩) (hoth : ∀ j, j ≠ i → s'.rows (upd V i v) j = s.rows V j) (hsent : s'.sent = s.sent) : BIn S (w2.setCell ⟨t, i.slot, none⟩ v) t s' := by
  obtain ⟨tag', h'⟩ := h.putV i hc0 hc v e k n xs ho hb hrow hoth hsent
  exact ⟨_, tag', h'⟩

def FirstPost (S : Nat → Prop) (w : World) (t : Nat) (b : Nat) (x : Int) (s' : BNet) (e : Ending) (w' : World) : Prop := e = .returned (.agg #[.int .i64 b, .int .i64 x]) ∧ BIn S w' t s' ∧ Chg (fun k => ¬ S k) w w'

theorem first_forth {S : Nat → Prop} {w : World} {t : Nat} {s : BNet} {V : BIx → Value} {tag : Nat → Option (Option BIx)} (h : BAt S w t s V tag) (hs : BInv s) (f : Nat × Int) (r : List (Nat × Int)) (hf : s.forth = f :: r) :
    Calls Tryd.prog 36 #[.pointer (some ⟨t, 3, none⟩)] w (FirstPost S w t f.1 f.2 { s with forth := r }) := by
  refine (first_any h 3 .forth rfl f.1 f.2 r ?_ (by have := hs.f8; rw [hf] at this; simp at this; omega)).mono ?_
  · show (⟨_, _, _, s.forth.length, fcells s.forth⟩ : Sl) = _
    rw [hf]; rfl
  · rintro e w' ⟨rfl, ⟨v', tag', hM⟩, hc⟩
    refine ⟨rfl, ⟨upd V .forth v', tag', Mem.congr hM rfl fun j => ?_⟩, hc⟩
    cases j with
    | forth => rw [upd_self]; rfl
    | vals => rw [upd_ne _ _ (by simp)]; rfl
    | got => rw [upd_ne _ _ (by simp)]; rfl
    | back => rw [upd_ne _ _ (by simp)]; rfl

theorem first_back {S : Nat → Prop} {w : World} {t : Nat} {s : BNet} {V : BIx → Value} {tag : Nat → Option (Option BIx)} (h : BAt S w t s V tag) (hs : BInv s) (b : Nat) (r : List Nat) (hf : s.back = b :: r) :
    Calls Tryd.prog 36 #[.pointer (some ⟨t, 4, none⟩)] w (FirstPost S w t b 0 { s with back := r }) := by
  refine (first_any h 4 .back rfl b 0 (zip0 r) ?_ (by have := hs.b8; rw [hf] at this; simp [zip0] at this ⊢; omega)).mono ?_
  · show (⟨_, _, _, s.back.length, fcells (zip0 s.back)⟩ : Sl) = _
    rw [hf]; simp [zip0]; rfl
  · rintro e w' ⟨rfl, ⟨v', tag', hM⟩, hc⟩
    refine ⟨rfl, ⟨upd V .back v', tag', Mem.congr hM rfl fun j => ?_⟩, hc⟩
    cases j with
    | back => rw [upd_self]; simp [zip0]; rfl
    | vals => rw [upd_ne _ _ (by simp)]; rfl
    | got => rw [upd_ne _ _ (by simp)]; rfl
    | forth => rw [upd_ne _ _ (by simp)]; rfl

theorem err2 (s : BNet) : s.err 2 = if s.forth.length = 0 then 5 else 0 := by
  unfold BNet.err; rw [if_neg (by omega), if_neg (by omega), if_neg (by omega), if_pos rfl]
theorem err3 (s : BNet) : s.err 3 = if s.forth.length = 0 then 5 else if 8 ≤ s.forth.length then 4 else 0 := by
  unfold BNet.err; rw [if_neg (by omega), if_neg (by omega), if_neg (by omega), if_neg (by omega), if_pos rfl]
theorem err5 (s : BNet) : s.err 5 = if s.back.length = 0 then 5 else 0 := by
  unfold BNet.err; rw [if_neg (by omega), if_neg (by omega), if_neg (by omega), if_neg (by omega), if_neg (by omega), if_neg (by omega), if_pos rfl]
theorem err6 (s : BNet) : s.err 6 = if s.back.length = 0 then 5 else if 8 ≤ s.back.length then 4 else 0 := by
  unfold BNet.err; rw [if_neg (by omega), if_neg (by omega), if_neg (by omega), if_neg (by omega), if_neg (by omega), if_neg (by omega), if_neg (by omega)]

set_option maxHeartbeats 8000000 in
set_option maxRecDepth 100000 in
theorem do2 (S : Nat → Prop) (w : World) (t : Nat) (s : BNet) (h : BIn S w t s) (hs : BInv s) :
    Calls Tryd.prog 19 #[.pointer (some ⟨t, 0, none⟩), .int .i64 2] w (BDoPost S w t (s.err 2) (s.act 2)) := by
  obtain ⟨V, tag, hA⟩ := h
  have HA := Lib.hid hA
  have HS := Lib.hid hs
  obtain ⟨fa, fc, vF⟩ := hA.val0 .forth
  obtain ⟨ka, kc, vB⟩ := hA.val0 .back
  obtain ⟨ga, gc, vG⟩ := hA.val0 .got
  obtain ⟨va, vc, vV⟩ := hA.val0 .vals
  have vF : V .forth = .slice fa s.forth.length fc := vF
  have vB : V .back = .slice ka s.back.length kc := vB
  have vG : V .got = .slice ga s.got.length gc := vG
  have vV : V .vals = .slice va s.vals.length vc := vV
  have c0 : w.cell? ⟨t, 0, none⟩ = some (V .vals) := hA.blk.cell 0
  have c1 : w.cell? ⟨t, 1, none⟩ = some (.int .i64 s.sent) := hA.blk.cell 1
  have c2 : w.cell? ⟨t, 2, none⟩ = some (V .got) := hA.blk.cell 2
  have c3 : w.cell? ⟨t, 3, none⟩ = some (V .forth) := hA.blk.cell 3
  have c4 : w.cell? ⟨t, 4, none⟩ = some (V .back) := hA.blk.cell 4
  have HVF := Lib.hid vF
  have HVB := Lib.hid vB
  have HVG := Lib.hid vG
  have HVV := Lib.hid vV
  rw [vF] at c3
  rw [vB] at c4
  rw [vG] at c2
  rw [vV] at c0
  obtain ⟨fn, HFN⟩ : ∃ fn, Hid (s.forth.length = fn) := ⟨_, Lib.hid rfl⟩
  obtain ⟨bn, HBN⟩ : ∃ bn, Hid (s.back.length = bn) := ⟨_, Lib.hid rfl⟩
  obtain ⟨gn, HGN⟩ : ∃ gn, Hid (s.got.length = gn) := ⟨_, Lib.hid rfl⟩
  obtain ⟨m, HVN⟩ : ∃ m, Hid (s.vals.length = m) := ⟨_, Lib.hid rfl⟩
  obtain ⟨q, HQN⟩ : ∃ q, Hid (s.sent = q) := ⟨_, Lib.hid rfl⟩
  rw [HFN.out] at c3 HVF
  rw [HBN.out] at c4 HVB
  rw [HGN.out] at c2 HVG
  rw [HVN.out] at c0 HVV
  rw [HQN.out] at c1
  have hf8 : fn ≤ 8 := by rw [← HFN.out]; exact hs.f8
  have hb8 : bn ≤ 8 := by rw [← HBN.out]; exact hs.b8
  have hm20 : m ≤ 20 := by rw [← HVN.out]; exact hs.v20
  have hgm : gn ≤ m := by rw [← HGN.out, ← HVN.out]; exact hs.gle
  have hqm : q ≤ m := by rw [← HQN.out, ← HVN.out]; exact hs.sle
  have BAD : Hid (∀ x w', s.err 2 = x → x ≠ 0 → Chg NoF w w' → BDoPost S w t (s.err 2) (s.act 2) (.returned (errV x)) w') := Lib.hid fun x w' he hx hc => by
    have h1 : s.act 2 = s := by unfold BNet.act; rw [if_neg (by rw [he]; exact hx)]
    rw [h1, he]
    exact ⟨rfl, ⟨V, tag, HA.out.more hc⟩, hc.ofNo⟩
  clear hA vF vB vG vV hs
  by_cases e1 : fn = 0
  · have HE : Hid (s.err 2 = 5) := Lib.hid (by rw [err2, if_pos (by rw [HFN.out]; exact e1)])
    subst e1
    clear c0 c1 c2
    go_enter Tryd.func19, Tryd.ntmps19
    go_wp2_with fail
    refine (within_any _ _ _ _).mono ?_
    rintro e w' ⟨rfl, rfl⟩
    rw [show inB 2 0 6 = true from rfl]
    go_wp2
    go_ret
    exact BAD.out 5 _ HE.out (by decide) (Chg.refl _ _)
  have HE : Hid (s.err 2 = 0) := Lib.hid (by rw [err2, if_neg (by rw [HFN.out]; exact e1)])
  have hz : ((fn : Int) == 0) = false := by rw [beq_eq_false_iff_ne]; omega
  have HL0 : Hid (¬ s.forth.length = 0) := Lib.hid (by rw [HFN.out]; exact e1)
  have hact : Hid (s.act 2 = { s with forth := s.forth.drop 1 }) := Lib.hid (by unfold BNet.act; rw [if_pos HE.out]; rfl)
  have HF := Lib.hid (first_forth HA.out HS.out _ _ (cons_of_len HL0.out (0, 0)))
  have h8 : (8 : Int) ≤ fn ∨ ¬ (8 : Int) ≤ fn := by omega
  clear e1 c0 c1 c2
  rcases h8 with h8 | h8
  all_goals
    go_enter Tryd.func19, Tryd.ntmps19
    go_wp2_with fail
    refine (within_any _ _ _ _).mono ?_
    rintro e w' ⟨rfl, rfl⟩
    rw [show inB 2 0 6 = true from rfl]
    go_wp2_with fail
    refine HF.out.mono ?_
    rintro e w1 ⟨rfl, hin, hc⟩
    go_wp2
    go_ret
    exact ⟨by rw [HE.out]; rfl, by rw [hact.out]; exact hin, hc⟩

set_option maxHeartbeats 8000000 in
set_option maxRecDepth 100000 in
theorem do5 (S : Nat → Prop) (w : World) (t : Nat) (s : BNet) (h : BIn S w t s) (hs : BInv s) :
    Calls Tryd.prog 19 #[.pointer (some ⟨t, 0, none⟩), .int .i64 5] w (BDoPost S w t (s.err 5) (s.act 5)) := by
  obtain ⟨V, tag, hA⟩ := h
  have HA := Lib.hid hA
  have HS := Lib.hid hs
  obtain ⟨fa, fc, vF⟩ := hA.val0 .forth
  obtain ⟨ka, kc, vB⟩ := hA.val0 .back
  obtain ⟨ga, gc, vG⟩ := hA.val0 .got
  obtain ⟨va, vc, vV⟩ := hA.val0 .vals
  have vF : V .forth = .slice fa s.forth.length fc := vF
  have vB : V .back = .slice ka s.back.length kc := vB
  have vG : V .got = .slice ga s.got.length gc := vG
  have vV : V .vals = .slice va s.vals.length vc := vV
  have c0 : w.cell? ⟨t, 0, none⟩ = some (V .vals) := hA.blk.cell 0
  have c1 : w.cell? ⟨t, 1, none⟩ = some (.int .i64 s.sent) := hA.blk.cell 1
  have c2 : w.cell? ⟨t, 2, none⟩ = some (V .got) := hA.blk.cell 2
  have c3 : w.cell? ⟨t, 3, none⟩ = some (V .forth) := hA.blk.cell 3
  have c4 : w.cell? ⟨t, 4, none⟩ = some (V .back) := hA.blk.cell 4
  have HVF := Lib.hid vF
  have HVB := Lib.hid vB
  have HVG := Lib.hid vG
  have HVV := Lib.hid vV
  rw [vF] at c3
  rw [vB] at c4
  rw [vG] at c2
  rw [vV] at c0
  obtain ⟨fn, HFN⟩ : ∃ fn, Hid (s.forth.length = fn) := ⟨_, Lib.hid rfl⟩
  obtain ⟨bn, HBN⟩ : ∃ bn, Hid (s.back.length = bn) := ⟨_, Lib.hid rfl⟩
  obtain ⟨gn, HGN⟩ : ∃ gn, Hid (s.got.length = gn) := ⟨_, Lib.hid rfl⟩
  obtain ⟨m, HVN⟩ : ∃ m, Hid (s.vals.length = m) := ⟨_, Lib.hid rfl⟩
  obtain ⟨q, HQN⟩ : ∃ q, Hid (s.sent = q) := ⟨_, Lib.hid rfl⟩
  rw [HFN.out] at c3 HVF
  rw [HBN.out] at c4 HVB
  rw [HGN.out] at c2 HVG
  rw [HVN.out] at c0 HVV
  rw [HQN.out] at c1
  have hf8 : fn ≤ 8 := by rw [← HFN.out]; exact hs.f8
  have hb8 : bn ≤ 8 := by rw [← HBN.out]; exact hs.b8
  have hm20 : m ≤ 20 := by rw [← HVN.out]; exact hs.v20
  have hgm : gn ≤ m := by rw [← HGN.out, ← HVN.out]; exact hs.gle
  have hqm : q ≤ m := by rw [← HQN.out, ← HVN.out]; exact hs.sle
  have BAD : Hid (∀ x w', s.err 5 = x → x ≠ 0 → Chg NoF w w' → BDoPost S w t (s.err 5) (s.act 5) (.returned (errV x)) w') := Lib.hid fun x w' he hx hc => by
    have h1 : s.act 5 = s := by unfold BNet.act; rw [if_neg (by rw [he]; exact hx)]
    rw [h1, he]
    exact ⟨rfl, ⟨V, tag, HA.out.more hc⟩, hc.ofNo⟩
  clear hA vF vB vG vV hs
  by_cases e1 : bn = 0
  · have HE : Hid (s.err 5 = 5) := Lib.hid (by rw [err5, if_pos (by rw [HBN.out]; exact e1)])
    subst e1
    clear c0 c1 c2
    go_enter Tryd.func19, Tryd.ntmps19
    go_wp2_with fail
    refine (within_any _ _ _ _).mono ?_
    rintro e w' ⟨rfl, rfl⟩
    rw [show inB 5 0 6 = true from rfl]
    go_wp2
    go_ret
    exact BAD.out 5 _ HE.out (by decide) (Chg.refl _ _)
  have HE : Hid (s.err 5 = 0) := Lib.hid (by rw [err5, if_neg (by rw [HBN.out]; exact e1)])
  have hz : ((bn : Int) == 0) = false := by rw [beq_eq_false_iff_ne]; omega
  have HL0 : Hid (¬ s.back.length = 0) := Lib.hid (by rw [HBN.out]; exact e1)
  have hact : Hid (s.act 5 = { s with back := s.back.drop 1 }) := Lib.hid (by unfold BNet.act; rw [if_pos HE.out]; rfl)
  have HF := Lib.hid (first_back HA.out HS.out _ _ (cons_of_len HL0.out 0))
  have h8 : (8 : Int) ≤ bn ∨ ¬ (8 : Int) ≤ bn := by omega
  clear e1 c0 c1 c2
  rcases h8 with h8 | h8
  all_goals
    go_enter Tryd.func19, Tryd.ntmps19
    go_wp2_with fail
    refine (within_any _ _ _ _).mono ?_
    rintro e w' ⟨rfl, rfl⟩
    rw [show inB 5 0 6 = true from rfl]
    go_wp2_with fail
    refine HF.out.mono ?_
    rintro e w1 ⟨rfl, hin, hc⟩
    go_wp2
    go_ret
    exact ⟨by rw [HE.out]; rfl, by rw [hact.out]; exact hin, hc⟩

end Go.Proofs.YtgpjjbfmckcjgaaDoor
