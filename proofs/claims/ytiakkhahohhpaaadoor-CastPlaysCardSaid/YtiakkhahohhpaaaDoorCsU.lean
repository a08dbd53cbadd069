/-
  The walk of CastPlays: the program's net and the document's tell the same, whatever is sent and taken.
  Conditions: the steps are read as lists of integers; package errors' variable errorType holds the handle of the type 'error'.
-/
import Derived.Test.YtiakkhahohhpaaaDoorCsT
import Derived.Test.YtiakkhahohhpaaaDoorFind
import Derived.Deep.DeepCutAuto
namespace Go.Proofs.YtiakkhahohhpaaaDoor
open Go Go.RowKit

theorem CIn.other {S F : Nat → Prop} {w w1 : World} {t : Nat} {s : CNet} (h : CIn S w t s) (hc : Chg F w w1) (hF : ∀ b, b < w.heap.size → F b → S b) : CIn S w1 t s := by
  obtain ⟨V, tag, h⟩ := h
  exact ⟨V, tag, Mem.other h hc hF⟩
theorem CIn.adopt {S F : Nat → Prop} {w w1 : World} {t : Nat} {s : CNet} (h : CIn S w t s) (hc : Chg F w w1) (hF : ∀ b, b < w.heap.size → F b → S b) : CIn (Plus S w w1) w1 t s := by
  obtain ⟨V, tag, h⟩ := h
  obtain ⟨tag', h'⟩ := Mem.adopt h hc hF
  exact ⟨V, tag', h'⟩

theorem RC.opn {S : Nat → Prop} {w : World} {v : Value} {s : CNet} (h : RC S w v s) : ∃ ba kb ha kh ga kg, v = .agg #[.int .i64 s.n, .slice ba s.m kb, .slice ha s.m kh, .slice ga s.n kg] := by
  obtain ⟨vb, vh, vg, rfl, h1, h2, h3⟩ := h
  obtain ⟨ba, kb, rfl⟩ := h1.val
  obtain ⟨ha, kh, rfl⟩ := h2.val
  obtain ⟨ga, kg, rfl⟩ := h3.val
  rw [s.byL_len, s.hadL_len, s.gotLs_len]
  exact ⟨_, _, _, _, _, _, rfl⟩

/-- The program's net s and the document's r, which lies in block X. -/
structure PRel (w0 w : World) (t n X : Nat) (s r : CNet) : Prop where
  ex : ∃ (S : Nat → Prop) (ba : Option Addr) (kb : Nat) (ha : Option Addr) (kh : Nat) (ga : Option Addr) (kg : Nat), (∀ b, b < w0.heap.size → S b) ∧ S X ∧ CIn S w t s ∧ Blk w X [.int .i64 r.n, .slice ba r.m kb, .slice ha r.m kh, .slice ga r.n kg] ∧ RC (fun b => S b ∧ b ≠ X) w (.agg #[.int .i64 r.n, .slice ba r.m kb, .slice ha r.m kh, .slice ga r.n kg]) r
  chg : Chg (NewB w0) w0 w
  nX : ¬ X < w0.heap.size
  inv : CInv s s.m
  hn : s.n = n

theorem PRel.start {w w2 w4 : World} {t n X : Nat} {s : CNet} {ba : Option Addr} {kb : Nat} {ha : Option Addr} {kh : Nat} {ga : Option Addr} {kg : Nat} (h : CRel w w2 t n s) (hc2 : Chg NoF w2 w4) (hX : w2.heap.size ≤ X) (hB : Blk w4 X [.int .i64 s.n, .slice ba s.m kb, .slice ha s.m kh, .slice ga s.n kg]) (hr : RC (fun b => w2.heap.size ≤ b ∧ b ≠ X) w4 (.agg #[.int .i64 s.n, .slice ba s.m kb, .slice ha s.m kh, .slice ga s.n kg]) s) : PRel w w4 t n X s s where
  ex := ⟨Plus (fun b => b < w.heap.size) w2 w4, ba, kb, ha, kh, ga, kg, fun b hb => .inl hb, .inr ⟨hX, hB.lt⟩, h.2.2.1.adopt hc2 (fun _ _ h => h.elim), hB, hr.mono fun b hb h1 => ⟨.inr ⟨h1.1, hb⟩, h1.2⟩⟩
  chg := h.2.2.2.trans hc2.ofNo
  nX := by have := h.2.2.2.size; omega
  inv := h.1
  hn := h.2.1

theorem PRel.no {w0 w w1 : World} {t n X : Nat} {s r : CNet} (h : PRel w0 w t n X s r) (hc : Chg NoF w w1) : PRel w0 w1 t n X s r where
  ex := by
    obtain ⟨S, ba, kb, ha, kh, ga, kg, h1, h2, h3, h4, h5⟩ := h.ex
    exact ⟨S, ba, kb, ha, kh, ga, kg, h1, h2, h3.keep hc, h4.keep hc (fun h => h), h5.keep hc (fun _ _ h => h)⟩
  chg := h.chg.trans hc.ofNo
  nX := h.nX
  inv := h.inv
  hn := h.hn

theorem PRel.opn {w0 w : World} {t n X : Nat} {s r : CNet} (h : PRel w0 w t n X s r) : ∃ S, CIn S w t s ∧ ∀ w1 s', CIn S w1 t s' → Chg (fun k => ¬ S k) w w1 → CInv s' s'.m → s'.n = s.n → PRel w0 w1 t n X s' r := by
  obtain ⟨S, ba, kb, ha, kh, ga, kg, h1, h2, h3, h4, h5⟩ := h.ex
  refine ⟨S, h3, fun w1 s' hin hc hi hn => ⟨⟨S, ba, kb, ha, kh, ga, kg, h1, h2, hin, h4.keep hc (fun e => e h2), h5.keep hc (fun b hb e => e hb.1)⟩, h.chg.trans (hc.mono fun b _ hb hlt => hb (h1 b hlt)), h.nX, hi, hn.trans h.hn⟩⟩

theorem PRel.opnR {w0 w : World} {t n X : Nat} {s r : CNet} (h : PRel w0 w t n X s r) : ∃ (S1 : Nat → Prop) (ba : Option Addr) (kb : Nat) (ha : Option Addr) (kh : Nat) (ga : Option Addr) (kg : Nat), (∀ b, S1 b → b < w.heap.size) ∧ Blk w X [.int .i64 r.n, .slice ba r.m kb, .slice ha r.m kh, .slice ga r.n kg] ∧ RC S1 w (.agg #[.int .i64 r.n, .slice ba r.m kb, .slice ha r.m kh, .slice ga r.n kg]) r ∧
    ∀ (wx w3 : World) (r' : CNet) (ba' : Option Addr) (kb' : Nat) (ha' : Option Addr) (kh' : Nat) (ga' : Option Addr) (kg' : Nat), Chg NoF w wx → RC (fun b => S1 b ∨ w.heap.size ≤ b) wx (.agg #[.int .i64 r'.n, .slice ba' r'.m kb', .slice ha' r'.m kh', .slice ga' r'.n kg']) r' → Blk w3 X [.int .i64 r'.n, .slice ba' r'.m kb', .slice ha' r'.m kh', .slice ga' r'.n kg'] → Chg (fun k => k = X) wx w3 → PRel w0 w3 t n X s r' := by
  obtain ⟨S, ba, kb, ha, kh, ga, kg, h1, h2, h3, h4, h5⟩ := h.ex
  have hlt := h4.lt
  refine ⟨fun b => (S b ∧ b ≠ X) ∧ b < w.heap.size, ba, kb, ha, kh, ga, kg, fun b hb => hb.2, h4, h5.mono (fun b hb h => ⟨h, hb⟩), fun wx w3 r' ba' kb' ha' kh' ga' kg' hc hr hB hX => ⟨⟨Plus S w wx, ba', kb', ha', kh', ga', kg', fun b hb => .inl (h1 b hb), .inl h2, (h3.adopt hc (fun _ _ h => h.elim)).other hX (fun b _ e => by have e : b = X := e; subst e; exact .inl h2), hB, ?_⟩, ?_, h.nX, h.inv, h.hn⟩⟩
  · refine ((hr.mono (S' := fun b => (Plus S w wx b) ∧ b ≠ X) (fun b hb h6 => ?_)).keep hX (fun b hb e => hb.2 e))
    rcases h6 with h6 | h6
    · exact ⟨.inl h6.1.1, h6.1.2⟩
    · exact ⟨.inr ⟨h6, hb⟩, by omega⟩
  · exact (h.chg.trans hc.ofNo).trans (hX.mono fun b _ e => by have e : b = X := e; subst e; exact h.nX)

theorem RC.lists {S : Nat → Prop} {w : World} {s : CNet} {ba : Option Addr} {kb : Nat} {ha : Option Addr} {kh : Nat} {ga : Option Addr} {kg : Nat} (h : RC S w (.agg #[.int .i64 s.n, .slice ba s.m kb, .slice ha s.m kh, .slice ga s.n kg]) s) : Rd S w (.slice ba s.m kb) s.byL ∧ Rd2 S w (.slice ha s.m kh) s.hadL ∧ Rd2 S w (.slice ga s.n kg) s.gotLs := by
  obtain ⟨vb, vh, vg, e, h1, h2, h3⟩ := h
  simp only [Value.agg.injEq, Array.mk.injEq, List.cons.injEq, and_true, true_and] at e
  obtain ⟨rfl, rfl, rfl⟩ := e
  exact ⟨h1, h2, h3⟩

theorem sendErr_rng (s : CNet) (p : Int) : 0 ≤ s.sendErr p ∧ s.sendErr p ≤ 9 := by
  unfold CNet.sendErr
  (repeat' split) <;> omega
theorem takeErr_rng (s : CNet) (p k : Int) : 0 ≤ s.takeErr p k ∧ s.takeErr p k ≤ 9 := by
  unfold CNet.takeErr
  (repeat' split) <;> omega

/-- Behind a call of the document's: its answer lies in block Y. -/
def YR (S1 : Nat → Prop) (w wx : World) (Y : Nat) (r' : CNet) : Prop := ∃ (ba : Option Addr) (kb : Nat) (ha : Option Addr) (kh : Nat) (ga : Option Addr) (kg : Nat), Chg NoF w wx ∧ Blk wx Y [.int .i64 r'.n, .slice ba r'.m kb, .slice ha r'.m kh, .slice ga r'.n kg] ∧ RC (fun b => S1 b ∨ w.heap.size ≤ b) wx (.agg #[.int .i64 r'.n, .slice ba r'.m kb, .slice ha r'.m kh, .slice ga r'.n kg]) r'

theorem YR.ofDrew {S1 : Nat → Prop} {w wx : World} {Y : Nat} {r' : CNet} (h : YR S1 w.drew wx Y r') : YR S1 w wx Y r' := by
  obtain ⟨ba, kb, ha, kh, ga, kg, h1, h2, h3⟩ := h
  exact ⟨ba, kb, ha, kh, ga, kg, ((Chg.refl NoF w).drew).trans h1, h2, h3⟩

/-- The answer told, then stored in a new block. -/
theorem YR.mk1 {S1 : Nat → Prop} {w w1 w3 : World} {r' : CNet} {ba : Option Addr} {kb : Nat} {ha : Option Addr} {kh : Nat} {ga : Option Addr} {kg : Nat} (hc : Chg NoF w w1) (hr : RC (More S1 w) w1 (.agg #[.int .i64 r'.n, .slice ba r'.m kb, .slice ha r'.m kh, .slice ga r'.n kg]) r') (e : TypeId) (hB : Blk w3 w1.heap.size [.int .i64 r'.n, .slice ba r'.m kb, .slice ha r'.m kh, .slice ga r'.n kg]) (hX : Chg (fun k => k = w1.heap.size) (w1.alloc (.cells #[.int .i64 0, .slice none 0 0, .slice none 0 0, .slice none 0 0] e)) w3) : YR S1 w w3 w1.heap.size r' := by
  have hc3 : Chg NoF w w3 := (hc.alloc _).trans2 hX fun i _ hi => .inr (by have hi : i = w1.heap.size := hi; have := hc.size; omega)
  refine ⟨ba, kb, ha, kh, ga, kg, hc3, hB, ?_⟩
  have h1 := (hr.mono (S' := fun b => (S1 b ∨ w.heap.size ≤ b) ∧ b < w1.heap.size) (fun b hb h => ⟨h, hb⟩)).keep ((Chg.refl NoF w1).alloc (.cells #[.int .i64 0, .slice none 0 0, .slice none 0 0, .slice none 0 0] e)) (fun _ _ h => h)
  exact (h1.keep hX (fun b hb e => by have e : b = w1.heap.size := e; have := hb.2; omega)).mono fun b _ h => h.1

/-- A new block first, then the answer told, and stored. -/
theorem YR.mk2 {S1 : Nat → Prop} {w w1 w3 : World} {r' : CNet} {ba : Option Addr} {kb : Nat} {ha : Option Addr} {kh : Nat} {ga : Option Addr} {kg : Nat} {Y : Nat} (hY : Y = w.heap.size) (h0 : ∀ b, S1 b → b < w.heap.size) (e : TypeId) (hc : Chg NoF (w.alloc (.cells #[.int .i64 0, .slice none 0 0, .slice none 0 0, .slice none 0 0] e)) w1) (hr : RC (More S1 (w.alloc (.cells #[.int .i64 0, .slice none 0 0, .slice none 0 0, .slice none 0 0] e))) w1 (.agg #[.int .i64 r'.n, .slice ba r'.m kb, .slice ha r'.m kh, .slice ga r'.n kg]) r') (hB : Blk w3 Y [.int .i64 r'.n, .slice ba r'.m kb, .slice ha r'.m kh, .slice ga r'.n kg]) (hX : Chg (fun k => k = Y) w1 w3) : YR S1 w w3 Y r' := by
  subst hY
  have hc3 : Chg NoF w w3 := (((Chg.refl NoF w).alloc _).trans hc).trans2 hX fun i _ hi => .inr (by have hi : i = w.heap.size := hi; omega)
  refine ⟨ba, kb, ha, kh, ga, kg, hc3, hB, ?_⟩
  refine (hr.mono (S' := fun b => (S1 b ∨ w.heap.size ≤ b) ∧ b ≠ w.heap.size) (fun b hb h => ?_)).keep hX (fun b hb e => hb.2 e) |>.mono fun b _ h => h.1
  rcases h with h | h
  · have := h0 b h; exact ⟨.inl h, by omega⟩
  · simp at h; exact ⟨.inr (by omega), by omega⟩

set_option maxHeartbeats 8000000 in
set_option maxRecDepth 100000 in
theorem plays_walk (n : Int) (v : Value) (ll : List (List Int)) (w : World) (hg : As.Met w) (hr : Rd2 (fun k => k < w.heap.size) w v ll) (hlb : ll.length ≤ 9223372036854775807) :
    Calls Tryd.prog 6 #[.int .i64 n, v] w fun e w' => e = .returned (.bool true) ∧ Chg (NewB w) w w' := by
  have HR := Lib.hid hr
  have _ := hlb
  have HG := Lib.hid hg
  clear hr hg
  go_enter Tryd.func6, Tryd.ntmps6
  go_wp2_with fail
  refine (new_any n w).mono ?_
  rintro e w2 ⟨hc2, hnew⟩
  have HC2 := Lib.hid hc2
  clear hc2
  rcases hnew with ⟨hbad, rfl⟩ | ⟨k, rfl, hk1, hk4, t, rfl, hin⟩
  · have hb : decide (n < 1) = true ∨ (decide (n < 1) = false ∧ decide (4 < n) = true) := by
      rcases Bool.and_eq_false_iff.1 hbad with h | h
      · left; rw [decide_eq_true_eq]; have := of_decide_eq_false h; omega
      · by_cases h1 : n < 1
        · left; rw [decide_eq_true_eq]; exact h1
        · right; rw [decide_eq_true_eq, decide_eq_false_iff_not]; have := of_decide_eq_false h; omega
    clear hbad
    rcases hb with hb | ⟨hb1, hb2⟩
    all_goals
      go_wp2_with fail
      refine (error_any 1 1 (by omega) (by omega) w2 (HG.out.no HC2.out)).mono ?_
      rintro e w3 ⟨rfl, hc3⟩
      go_wp2
      go_ret
      exact ⟨rfl, (HC2.out.trans hc3).ofNo⟩
  have HREL : Hid (CRel w w2 t k (CNet.init k)) := Lib.hid (CRel.start hk1 hk4 (Chg.refl NoF w) HC2.out hin)
  obtain ⟨s0, HS0⟩ : ∃ s0, Hid (CNet.init k = s0) := ⟨_, Lib.hid rfl⟩
  rw [HS0.out] at HREL
  clear hin
  obtain ⟨pv, cv, rfl⟩ := HR.out.val
  obtain ⟨sl, hSL⟩ : ∃ sl, Hid (ll.length = sl) := ⟨_, Lib.hid rfl⟩
  rw [hSL.out] at hlb HR ⊢
  go_wp2_with fail
  refine (newCast_ref (fun _ => False) k hk4 w2).mono ?_
  rintro e w3 ⟨vx, rfl, hrc, hc3⟩
  rw [HS0.out] at hrc
  obtain ⟨ba, kb, ha, kh, ga, kg, rfl⟩ := hrc.opn
  have HRC := Lib.hid hrc
  have HC3 := Lib.hid hc3
  clear hrc hc3
  obtain ⟨x0, HX0⟩ : ∃ x0 : Nat, Hid (s0.n = x0) := ⟨_, Lib.hid rfl⟩
  obtain ⟨x1, HX1⟩ : ∃ x1 : Nat, Hid (s0.m = x1) := ⟨_, Lib.hid rfl⟩
  rw [HX0.out, HX1.out] at HRC
  rw [HX0.out, HX1.out]
  go_wp2_with (refine wpList_plain rfl (fun K hK => wp_storeT aggCast _ _ rfl w3.heap.size [.int .i64 x0, .slice ba x1 kb, .slice ha x1 kh, .slice ga x0 kg] [.int .i64 0, .slice none 0 0, .slice none 0 0, .slice none 0 0] (by rfl) (by rfl) rfl (Blk.alloc w3 [.int .i64 0, .slice none 0 0, .slice none 0 0, .slice none 0 0] 41) rfl rfl ?_); intro w4 hB4 hc4; have HB4 := Lib.hid hB4; have HC4 := Lib.hid hc4; clear hB4 hc4; refine hK _ _ ?_; clear hK)
  have HP : Hid (PRel w w4 t k w3.heap.size s0 s0) := Lib.hid (by
    have hcn : Chg NoF w3 w4 := ((Chg.refl NoF w3).alloc (.cells #[.int .i64 0, .slice none 0 0, .slice none 0 0, .slice none 0 0] 41)).trans2 HC4.out fun i _ hi => .inr (by have hi : i = w3.heap.size := hi; omega)
    have h1 := HC3.out.size
    have hB := HB4.out
    have hR := HRC.out
    rw [← HX0.out, ← HX1.out] at hB hR
    refine PRel.start HREL.out (HC3.out.trans hcn) h1 hB ?_
    refine (((hR.mono (S' := fun b => (w2.heap.size ≤ b ∧ b ≠ w3.heap.size)) (fun b hb h => ?_)).keep hcn (fun _ _ h => h)))
    rcases h with h | h
    · exact h.elim
    · exact ⟨h, by omega⟩)
  clear HREL HRC HC3 HB4 HC4 HX0 HX1 HC2
  obtain ⟨X, HX⟩ : ∃ X, Hid (w3.heap.size = X) := ⟨_, Lib.hid rfl⟩
  rw [HX.out] at HP
  rw [HX.out]
  go_loopw [8, 9, 10, 11, 12, 13, 14, 15, 16, 17] (fun i _ _ _ _ _ _ _ _ _ wr => ∃ j : Nat, j ≤ sl ∧ j ≤ 150 ∧ i = .int .i64 j ∧ ∃ s, Hid (PRel w wr t k X s s)) (fun i _ _ _ _ _ _ _ _ _ _ => 150 - (intOf i).toNat)
  case atStart => exact ⟨0, Nat.zero_le _, Nat.zero_le _, rfl, _, HP⟩
  case round =>
    clear HP
    obtain ⟨j, hjsl, hj150, rfl, s, HP⟩ := hrel
    by_cases hlt : j < sl ∧ j < 150
    · obtain ⟨hlt1, hlt2⟩ := hlt
      obtain ⟨b, off, c, u, e1, hcell, hrow, hrl⟩ := HR.out.at (Chg.refl (NewB w) w) (fun b hb hn => hn hb) (j := j) (by rw [hSL.out]; exact hlt1)
      simp only [Value.slice.injEq] at e1
      obtain ⟨rfl, -, rfl⟩ := e1
      have hj1 : (j : Int) < sl := by omega
      have hj2 : (j : Int) < 150 := by omega
      have HROW := Lib.hid hrow
      have HROWL := Lib.hid hrl
      obtain ⟨ua, uc, rfl⟩ := hrow.val
      have hcw := HP.out.chg.cell_some hcell (fun hn => hn (World.block_lt_of_cell? w _ hcell))
      obtain ⟨ln, HLN⟩ : ∃ ln, Hid ((ll.getD j []).length = ln) := ⟨_, Lib.hid rfl⟩
      rw [HLN.out] at HROW HROWL hcw
      clear hrow hrl hcell
      go_upto_if 56 with fail
      go_cut [11, 12, 13, 14] (fun _ _ _ _ wx => ∃ s', Hid (PRel w wx t k X s' s'))
      case first =>
        by_cases hl1 : ln = 1
        · subst hl1
          obtain ⟨b1, o1, c1', e1', -, hl⟩ := HROW.out.form (by rw [HLN.out]; omega)
          rw [HLN.out] at hl e1'
          simp only [Value.slice.injEq] at e1'
          obtain ⟨rfl, -, rfl⟩ := e1'
          have dw := hl 0 (by omega)
          obtain ⟨x, HX⟩ : ∃ x, Hid ((ll.getD j []).getD 0 0 = x) := ⟨_, Lib.hid rfl⟩
          rw [HX.out, Nat.add_zero] at dw
          have HBL : Hid (b1 < w.heap.size) := Lib.hid (World.block_lt_of_cell? w _ dw)
          have HBX1 : Hid (b1 ≠ X) := Lib.hid (fun e => HP.out.nX (by rw [← e]; exact HBL.out))
          have d0 := HP.out.chg.cell_some dw (fun hn => hn HBL.out)
          obtain ⟨S1, ba, kb, ha, kh, ga, kg, hS1, hBX, hRC, hput⟩ := HP.out.opnR
          have HS1 := Lib.hid hS1
          have HBX := Lib.hid hBX
          have HRC := Lib.hid hRC
          have HPUT := Lib.hid hput
          have HER := Lib.hid (sendErr_rng s x)
          have HSR := Lib.hid (fun wq (h : RC S1 wq (.agg #[.int .i64 s.n, .slice ba s.m kb, .slice ha s.m kh, .slice ga s.n kg]) s) => send_ref S1 wq _ s h HP.out.inv x)
          have HNT := Lib.hid (fun S5 w5 (h : CIn S5 w5 t s) => send_any S5 w5 t s h HP.out.inv x)
          have HI2 := Lib.hid (HP.out.inv.send x)
          have HN2 := Lib.hid (CNet.send_n s x)
          obtain ⟨s2, HS2⟩ : ∃ s2, Hid (s.send x = s2) := ⟨_, Lib.hid rfl⟩
          obtain ⟨kv, HKV⟩ : ∃ kv, Hid (s.sendVal x = kv) := ⟨_, Lib.hid rfl⟩
          obtain ⟨ke, HKE⟩ : ∃ ke, Hid (s.sendErr x = ke) := ⟨_, Lib.hid rfl⟩
          rw [HS2.out] at HSR HNT HI2 HN2
          rw [HKV.out] at HSR HNT
          rw [HKE.out] at HSR HNT HER
          have c0 : wr.cell? ⟨X, 0, none⟩ = some (.int .i64 s.n) := hBX.cell 0
          have c1 : wr.cell? ⟨X, 1, none⟩ = some (.slice ba s.m kb) := hBX.cell 1
          have c2 : wr.cell? ⟨X, 2, none⟩ = some (.slice ha s.m kh) := hBX.cell 2
          have c3 : wr.cell? ⟨X, 3, none⟩ = some (.slice ga s.n kg) := hBX.cell 3
          clear hS1 hBX hRC hput hl hcw
          go_upto_region 12 with fail
          go_cut [10, 11, 12] (fun y c11 c12 wx => ∃ Y, y = .pointer (some ⟨Y, 0, none⟩) ∧ c11 = .int .i64 kv ∧ c12 = .int .i64 ke ∧ Hid (YR S1 wr wx Y s2))
          case first =>
            refine wp_region_pl (Chg NoF wr) 13 (.q 0 (.q 1 (.q 2 (.q 3 (.b2 4 9 (.q 5 (.q 6 (.q 7 (.q 8 (.l 9 (.l 10 (.q 11 (.q 12 .nil)))))))) (.l 4 (.q 5 (.q 6 (.q 7 (.q 8 (.l 10 (.q 11 (.q 12 .nil)))))))))))) ) mixed (by kernel_rfl) (Chg.refl _ wr).drew ?_
            iterate 4 (refine wpPl_quiet (v := ?_) (by simp only [opAt, List.getElem?_cons_zero, List.getElem?_cons_succ, Option.getD_some]; rfl) (by rfl) (by exact fun _ _ _ h => h) (by intro w1 hS; have s0 := hS.cell_some c0 (fun h => h); have s1 := hS.cell_some c1 (fun h => h); have s2 := hS.cell_some c2 (fun h => h); have s3 := hS.cell_some c3 (fun h => h); have s4 := hS.cell_some d0 (fun h => h); clear hS; go_simp; with_reducible rfl) ?_; (simp only [Act.put, List.setIfInBounds_toArray, List.set_cons_zero, List.set_cons_succ]))
            refine wpPl_b2 (by simp only [opAt, List.getElem?_cons_zero, List.getElem?_cons_succ, Option.getD_some]; rfl) (by rfl) (by simp only [opAt, List.getElem?_cons_zero, List.getElem?_cons_succ, Option.getD_some]; rfl) (by rfl) (fun K hK => ?_) (fun K hK => ?_)
            · go_simp
              refine (HSR.out _ (HRC.out.keep ((Chg.refl NoF wr).drew) (fun _ _ h => h))).mono ?_
              rintro e w1 ⟨v1, rfl, hr1, hc1⟩
              obtain ⟨ba', kb', ha', kh', ga', kg', rfl⟩ := hr1.opn
              have hcz1 : Chg NoF wr w1 := ((Chg.refl NoF wr).drew).trans hc1
              refine hK _ _ (fun _ => hcz1) ?_
              clear hK
              (try simp only [Act.put, List.setIfInBounds_toArray, List.set_cons_zero, List.set_cons_succ])
              iterate 4 (refine wpPl_quiet (v := ?_) (by simp only [opAt, List.getElem?_cons_zero, List.getElem?_cons_succ, Option.getD_some]; rfl) (by rfl) (by exact fun _ _ _ h => h) (by intro w1 hS; clear hS; go_simp; with_reducible rfl) ?_; (simp only [Act.put, List.setIfInBounds_toArray, List.set_cons_zero, List.set_cons_succ]))
              refine wpPl_l (by simp only [opAt, List.getElem?_cons_zero, List.getElem?_cons_succ, Option.getD_some]; rfl) (by rfl) (fun K hK => ?_)
              go_simp
              refine hK _ _ (fun _ => hcz1.alloc _) ?_
              clear hK
              (try simp only [Act.put, List.setIfInBounds_toArray, List.set_cons_zero, List.set_cons_succ])
              refine wpPl_l (by simp only [opAt, List.getElem?_cons_zero, List.getElem?_cons_succ, Option.getD_some]; rfl) (by rfl) (fun K hK => ?_)
              refine wp_storeT aggCast _ _ rfl w1.heap.size [.int .i64 s2.n, .slice ba' s2.m kb', .slice ha' s2.m kh', .slice ga' s2.n kg'] [.int .i64 0, .slice none 0 0, .slice none 0 0, .slice none 0 0] (by rfl) (by rfl) rfl (Blk.alloc w1 [.int .i64 0, .slice none 0 0, .slice none 0 0, .slice none 0 0] 41) rfl rfl ?_
              intro wz hBz hcz
              have hyr := Lib.hid (YR.mk1 (S1 := S1) hcz1 hr1 41 hBz hcz)
              refine hK _ _ (fun _ => by obtain ⟨_, _, _, _, _, _, h, _⟩ := hyr.out; exact h) ?_
              clear hK
              (try simp only [Act.put, List.setIfInBounds_toArray, List.set_cons_zero, List.set_cons_succ])
              iterate 2 (refine wpPl_quiet (v := ?_) (by simp only [opAt, List.getElem?_cons_zero, List.getElem?_cons_succ, Option.getD_some]; rfl) (by rfl) (by exact fun _ _ _ h => h) (by intro w1 hS; clear hS; go_simp; with_reducible rfl) ?_; (simp only [Act.put, List.setIfInBounds_toArray, List.set_cons_zero, List.set_cons_succ]))
              refine wpPl_nil ?_
              clear hBz hcz hcz1 hr1 hc1
              go_wp2_with fail
              go_meet
              case rel => exact ⟨w1.heap.size, rfl, rfl, rfl, hyr⟩
            · go_simp
              refine hK _ _ (fun _ => ((Chg.refl NoF wr).drew).alloc _) ?_
              clear hK
              (try simp only [Act.put, List.setIfInBounds_toArray, List.set_cons_zero, List.set_cons_succ])
              refine wpPl_l (by simp only [opAt, List.getElem?_cons_zero, List.getElem?_cons_succ, Option.getD_some]; rfl) (by rfl) (fun K hK => ?_)
              go_simp
              refine (HSR.out _ (HRC.out.keep (((Chg.refl NoF wr).drew).alloc _) (fun _ _ h => h))).mono ?_
              rintro e w1 ⟨v1, rfl, hr1, hc1⟩
              obtain ⟨ba', kb', ha', kh', ga', kg', rfl⟩ := hr1.opn
              have hcz1 : Chg NoF wr w1 := (((Chg.refl NoF wr).drew).alloc _).trans hc1
              refine hK _ _ (fun _ => hcz1) ?_
              clear hK
              (try simp only [Act.put, List.setIfInBounds_toArray, List.set_cons_zero, List.set_cons_succ])
              iterate 4 (refine wpPl_quiet (v := ?_) (by simp only [opAt, List.getElem?_cons_zero, List.getElem?_cons_succ, Option.getD_some]; rfl) (by rfl) (by exact fun _ _ _ h => h) (by intro w1 hS; clear hS; go_simp; with_reducible rfl) ?_; (simp only [Act.put, List.setIfInBounds_toArray, List.set_cons_zero, List.set_cons_succ]))
              refine wpPl_l (by simp only [opAt, List.getElem?_cons_zero, List.getElem?_cons_succ, Option.getD_some]; rfl) (by rfl) (fun K hK => ?_)
              refine wp_storeT aggCast _ _ rfl wr.heap.size [.int .i64 s2.n, .slice ba' s2.m kb', .slice ha' s2.m kh', .slice ga' s2.n kg'] [.int .i64 0, .slice none 0 0, .slice none 0 0, .slice none 0 0] (by rfl) (by rfl) rfl ((Blk.alloc wr.drew [.int .i64 0, .slice none 0 0, .slice none 0 0, .slice none 0 0] 41).keep hc1 (fun h => h)) rfl rfl ?_
              intro wz hBz hcz
              have hyr := Lib.hid (YR.mk2 (S1 := S1) (w := wr.drew) (Y := wr.heap.size) rfl HS1.out 41 hc1 hr1 hBz hcz).ofDrew
              refine hK _ _ (fun _ => by obtain ⟨_, _, _, _, _, _, h, _⟩ := hyr.out; exact h) ?_
              clear hK
              (try simp only [Act.put, List.setIfInBounds_toArray, List.set_cons_zero, List.set_cons_succ])
              iterate 2 (refine wpPl_quiet (v := ?_) (by simp only [opAt, List.getElem?_cons_zero, List.getElem?_cons_succ, Option.getD_some]; rfl) (by rfl) (by exact fun _ _ _ h => h) (by intro w1 hS; clear hS; go_simp; with_reducible rfl) ?_; (simp only [Act.put, List.setIfInBounds_toArray, List.set_cons_zero, List.set_cons_succ]))
              refine wpPl_nil ?_
              clear hBz hcz hcz1 hr1 hc1
              go_wp2_with fail
              go_meet
              case rel => exact ⟨wr.heap.size, rfl, rfl, rfl, Lib.hid hyr.out⟩
          case rest =>
            obtain ⟨Y, rfl, rfl, rfl, HY⟩ := hcut
            obtain ⟨ba', kb', ha', kh', ga', kg', hcY, hBY, hRY⟩ := HY.out
            have HYC := Lib.hid hcY
            have HYB := Lib.hid hBY
            have HYR := Lib.hid hRY
            have HXC : Hid (Blk wc X [.int .i64 s.n, .slice ba s.m kb, .slice ha s.m kh, .slice ga s.n kg]) := Lib.hid (HBX.out.keep hcY (fun h => h))
            have d0c := hcY.cell_some d0 (fun h => h)
            clear hcY hBY hRY HY c0 c1 c2 c3 d0 HBX HRC HSR
            go_wp2_with (first
              | (refine wpList_plain rfl (fun K hK => wp_loadT aggCast _ rfl Y [.int .i64 s2.n, .slice ba' s2.m kb', .slice ha' s2.m kh', .slice ga' s2.n kg'] (by rfl) HYB.out rfl ?_); refine hK _ _ ?_; clear hK)
              | (refine wpList_plain rfl (fun K hK => wp_storeT aggCast _ _ rfl X [.int .i64 s2.n, .slice ba' s2.m kb', .slice ha' s2.m kh', .slice ga' s2.n kg'] _ (by rfl) (by rfl) rfl HXC.out rfl rfl ?_); intro w5 hB5 hc5; have HP5 := Lib.hid (HPUT.out _ _ _ _ _ _ _ _ _ HYC.out HYR.out hB5 hc5); have d05 := hc5.cell_some d0c HBX1.out; clear hB5 hc5; refine hK _ _ ?_; clear hK))
            obtain ⟨S5, hin5, hstep5⟩ := HP5.out.opn
            refine (HNT.out S5 w5 hin5).mono ?_
            rintro e w6 ⟨rfl, hin6, hc6⟩
            have HP6 : Hid (PRel w w6 t k X s2 s2) := Lib.hid (hstep5 w6 _ hin6 hc6 (by have := HI2.out; exact this) HN2.out)
            clear hin5 hstep5 hin6 hc6 HP5 d05 d0c HNT HPUT HP
            go_wp2_with fail
            refine (error_any ke ke (by have := HER.out; omega) (by have := HER.out; omega) w6 (HG.out.new HP6.out.chg)).mono ?_
            rintro e w7 ⟨rfl, hc7⟩
            have HP7 := Lib.hid (HP6.out.no hc7)
            simp only [decide_true]
            have hkk : (kv != kv) = false := by simp
            clear hc7 HP6
            go_wp2_with fail
            go_meet
            case rel => exact ⟨s2, HP7⟩
        · have hb1 : ((ln : Int) == 1) = false := by rw [beq_eq_false_iff_ne]; omega
          go_wp2_with fail
          go_meet
          case rel => exact ⟨s, HP⟩
      case rest =>
      obtain ⟨s3, HP3⟩ := hcut
      clear HP hcw
      go_upto_if 86 with fail
      go_cut [16] (fun _ wx => ∃ s', Hid (PRel w wx t k X s' s'))
      case first =>
        by_cases hl2 : ln = 2
        · subst hl2
          obtain ⟨b1, o1, c1', e1', -, hl⟩ := HROW.out.form (by rw [HLN.out]; omega)
          rw [HLN.out] at hl e1'
          simp only [Value.slice.injEq] at e1'
          obtain ⟨rfl, -, rfl⟩ := e1'
          have dw := hl 0 (by omega)
          have dv := hl 1 (by omega)
          obtain ⟨x, HX⟩ : ∃ x, Hid ((ll.getD j []).getD 0 0 = x) := ⟨_, Lib.hid rfl⟩
          obtain ⟨z, HZ⟩ : ∃ z, Hid ((ll.getD j []).getD 1 0 = z) := ⟨_, Lib.hid rfl⟩
          rw [HX.out, Nat.add_zero] at dw
          rw [HZ.out] at dv
          have HBL : Hid (b1 < w.heap.size) := Lib.hid (World.block_lt_of_cell? w _ dw)
          have HBX1 : Hid (b1 ≠ X) := Lib.hid (fun e => HP3.out.nX (by rw [← e]; exact HBL.out))
          have d0 := HP3.out.chg.cell_some dw (fun hn => hn HBL.out)
          have d1 := HP3.out.chg.cell_some dv (fun hn => hn HBL.out)
          obtain ⟨S1, ba, kb, ha, kh, ga, kg, hS1, hBX, hRC, hput⟩ := HP3.out.opnR
          have HS1 := Lib.hid hS1
          have HBX := Lib.hid hBX
          have HRC := Lib.hid hRC
          have HPUT := Lib.hid hput
          have HER := Lib.hid (takeErr_rng s3 x z)
          have HSR := Lib.hid (fun wq (h : RC S1 wq (.agg #[.int .i64 s3.n, .slice ba s3.m kb, .slice ha s3.m kh, .slice ga s3.n kg]) s3) => take_ref S1 wq _ s3 h HP3.out.inv x z)
          have HNT := Lib.hid (fun S5 w5 (h : CIn S5 w5 t s3) => take_any S5 w5 t s3 h HP3.out.inv x z)
          have HI2 := Lib.hid (HP3.out.inv.take x z)
          have HN2 := Lib.hid (CNet.take_n s3 x z)
          obtain ⟨s2, HS2⟩ : ∃ s2, Hid (s3.take x z = s2) := ⟨_, Lib.hid rfl⟩
          obtain ⟨ke, HKE⟩ : ∃ ke, Hid (s3.takeErr x z = ke) := ⟨_, Lib.hid rfl⟩
          rw [HS2.out] at HSR HNT HI2 HN2
          rw [HKE.out] at HSR HNT HER
          have c0 : wc.cell? ⟨X, 0, none⟩ = some (.int .i64 s3.n) := hBX.cell 0
          have c1 : wc.cell? ⟨X, 1, none⟩ = some (.slice ba s3.m kb) := hBX.cell 1
          have c2 : wc.cell? ⟨X, 2, none⟩ = some (.slice ha s3.m kh) := hBX.cell 2
          have c3 : wc.cell? ⟨X, 3, none⟩ = some (.slice ga s3.n kg) := hBX.cell 3
          clear hS1 hBX hRC hput hl
          rename_i wr
          obtain ⟨wr, rfl⟩ : ∃ y, y = wc := ⟨_, rfl⟩
          go_upto_region 18 with fail
          go_cut [15, 16] (fun y c16 wx => ∃ Y, y = .pointer (some ⟨Y, 0, none⟩) ∧ c16 = .int .i64 ke ∧ Hid (YR S1 wr wx Y s2))
          case first =>
            refine wp_region_pl (Chg NoF wr) 14 (.q 0 (.q 1 (.q 2 (.q 3 (.q 4 (.q 5 (.q 6 (.b2 7 11 (.q 8 (.q 9 (.q 10 (.l 11 (.l 12 (.q 13 .nil)))))) (.l 7 (.q 8 (.q 9 (.q 10 (.l 12 (.q 13 .nil)))))))))))))) mixed (by kernel_rfl) (Chg.refl _ wr).drew ?_
            iterate 7 (refine wpPl_quiet (v := ?_) (by simp only [opAt, List.getElem?_cons_zero, List.getElem?_cons_succ, Option.getD_some]; rfl) (by rfl) (by exact fun _ _ _ h => h) (by intro w1 hS; have s0 := hS.cell_some c0 (fun h => h); have s1 := hS.cell_some c1 (fun h => h); have s2 := hS.cell_some c2 (fun h => h); have s3 := hS.cell_some c3 (fun h => h); have s4 := hS.cell_some d0 (fun h => h); have s5 := hS.cell_some d1 (fun h => h); clear hS; go_simp; with_reducible rfl) ?_; (simp only [Act.put, List.setIfInBounds_toArray, List.set_cons_zero, List.set_cons_succ]))
            refine wpPl_b2 (by simp only [opAt, List.getElem?_cons_zero, List.getElem?_cons_succ, Option.getD_some]; rfl) (by rfl) (by simp only [opAt, List.getElem?_cons_zero, List.getElem?_cons_succ, Option.getD_some]; rfl) (by rfl) (fun K hK => ?_) (fun K hK => ?_)
            · go_simp
              refine (HSR.out _ (HRC.out.keep ((Chg.refl NoF wr).drew) (fun _ _ h => h))).mono ?_
              rintro e w1 ⟨v1, rfl, hr1, hc1⟩
              obtain ⟨ba', kb', ha', kh', ga', kg', rfl⟩ := hr1.opn
              have hcz1 : Chg NoF wr w1 := ((Chg.refl NoF wr).drew).trans hc1
              refine hK _ _ (fun _ => hcz1) ?_
              clear hK
              (try simp only [Act.put, List.setIfInBounds_toArray, List.set_cons_zero, List.set_cons_succ])
              iterate 3 (refine wpPl_quiet (v := ?_) (by simp only [opAt, List.getElem?_cons_zero, List.getElem?_cons_succ, Option.getD_some]; rfl) (by rfl) (by exact fun _ _ _ h => h) (by intro w1 hS; clear hS; go_simp; with_reducible rfl) ?_; (simp only [Act.put, List.setIfInBounds_toArray, List.set_cons_zero, List.set_cons_succ]))
              refine wpPl_l (by simp only [opAt, List.getElem?_cons_zero, List.getElem?_cons_succ, Option.getD_some]; rfl) (by rfl) (fun K hK => ?_)
              go_simp
              refine hK _ _ (fun _ => hcz1.alloc _) ?_
              clear hK
              (try simp only [Act.put, List.setIfInBounds_toArray, List.set_cons_zero, List.set_cons_succ])
              refine wpPl_l (by simp only [opAt, List.getElem?_cons_zero, List.getElem?_cons_succ, Option.getD_some]; rfl) (by rfl) (fun K hK => ?_)
              refine wp_storeT aggCast _ _ rfl w1.heap.size [.int .i64 s2.n, .slice ba' s2.m kb', .slice ha' s2.m kh', .slice ga' s2.n kg'] [.int .i64 0, .slice none 0 0, .slice none 0 0, .slice none 0 0] (by rfl) (by rfl) rfl (Blk.alloc w1 [.int .i64 0, .slice none 0 0, .slice none 0 0, .slice none 0 0] 41) rfl rfl ?_
              intro wz hBz hcz
              have hyr := Lib.hid (YR.mk1 (S1 := S1) hcz1 hr1 41 hBz hcz)
              refine hK _ _ (fun _ => by obtain ⟨_, _, _, _, _, _, h, _⟩ := hyr.out; exact h) ?_
              clear hK
              (try simp only [Act.put, List.setIfInBounds_toArray, List.set_cons_zero, List.set_cons_succ])
              (refine wpPl_quiet (v := ?_) (by simp only [opAt, List.getElem?_cons_zero, List.getElem?_cons_succ, Option.getD_some]; rfl) (by rfl) (by exact fun _ _ _ h => h) (by intro w1 hS; clear hS; go_simp; with_reducible rfl) ?_; (simp only [Act.put, List.setIfInBounds_toArray, List.set_cons_zero, List.set_cons_succ]))
              refine wpPl_nil ?_
              clear hBz hcz hcz1 hr1 hc1
              go_wp2_with fail
              go_meet
              case rel => exact ⟨w1.heap.size, rfl, rfl, hyr⟩
            · go_simp
              refine hK _ _ (fun _ => ((Chg.refl NoF wr).drew).alloc _) ?_
              clear hK
              (try simp only [Act.put, List.setIfInBounds_toArray, List.set_cons_zero, List.set_cons_succ])
              refine wpPl_l (by simp only [opAt, List.getElem?_cons_zero, List.getElem?_cons_succ, Option.getD_some]; rfl) (by rfl) (fun K hK => ?_)
              go_simp
              refine (HSR.out _ (HRC.out.keep (((Chg.refl NoF wr).drew).alloc _) (fun _ _ h => h))).mono ?_
              rintro e w1 ⟨v1, rfl, hr1, hc1⟩
              obtain ⟨ba', kb', ha', kh', ga', kg', rfl⟩ := hr1.opn
              have hcz1 : Chg NoF wr w1 := (((Chg.refl NoF wr).drew).alloc _).trans hc1
              refine hK _ _ (fun _ => hcz1) ?_
              clear hK
              (try simp only [Act.put, List.setIfInBounds_toArray, List.set_cons_zero, List.set_cons_succ])
              iterate 3 (refine wpPl_quiet (v := ?_) (by simp only [opAt, List.getElem?_cons_zero, List.getElem?_cons_succ, Option.getD_some]; rfl) (by rfl) (by exact fun _ _ _ h => h) (by intro w1 hS; clear hS; go_simp; with_reducible rfl) ?_; (simp only [Act.put, List.setIfInBounds_toArray, List.set_cons_zero, List.set_cons_succ]))
              refine wpPl_l (by simp only [opAt, List.getElem?_cons_zero, List.getElem?_cons_succ, Option.getD_some]; rfl) (by rfl) (fun K hK => ?_)
              refine wp_storeT aggCast _ _ rfl wr.heap.size [.int .i64 s2.n, .slice ba' s2.m kb', .slice ha' s2.m kh', .slice ga' s2.n kg'] [.int .i64 0, .slice none 0 0, .slice none 0 0, .slice none 0 0] (by rfl) (by rfl) rfl ((Blk.alloc wr.drew [.int .i64 0, .slice none 0 0, .slice none 0 0, .slice none 0 0] 41).keep hc1 (fun h => h)) rfl rfl ?_
              intro wz hBz hcz
              have hyr := Lib.hid (YR.mk2 (S1 := S1) (w := wr.drew) (Y := wr.heap.size) rfl HS1.out 41 hc1 hr1 hBz hcz).ofDrew
              refine hK _ _ (fun _ => by obtain ⟨_, _, _, _, _, _, h, _⟩ := hyr.out; exact h) ?_
              clear hK
              (try simp only [Act.put, List.setIfInBounds_toArray, List.set_cons_zero, List.set_cons_succ])
              (refine wpPl_quiet (v := ?_) (by simp only [opAt, List.getElem?_cons_zero, List.getElem?_cons_succ, Option.getD_some]; rfl) (by rfl) (by exact fun _ _ _ h => h) (by intro w1 hS; clear hS; go_simp; with_reducible rfl) ?_; (simp only [Act.put, List.setIfInBounds_toArray, List.set_cons_zero, List.set_cons_succ]))
              refine wpPl_nil ?_
              clear hBz hcz hcz1 hr1 hc1
              go_wp2_with fail
              go_meet
              case rel => exact ⟨wr.heap.size, rfl, rfl, Lib.hid hyr.out⟩
          case rest =>
            obtain ⟨Y, rfl, rfl, HY⟩ := hcut
            obtain ⟨ba', kb', ha', kh', ga', kg', hcY, hBY, hRY⟩ := HY.out
            have HYC := Lib.hid hcY
            have HYB := Lib.hid hBY
            have HYR := Lib.hid hRY
            have HXC : Hid (Blk wc X [.int .i64 s3.n, .slice ba s3.m kb, .slice ha s3.m kh, .slice ga s3.n kg]) := Lib.hid (HBX.out.keep hcY (fun h => h))
            have nd0 : ¬ NewB w b1 := fun hn => hn HBL.out
            clear hcY hBY hRY HY c0 c1 c2 c3 d0 d1 HBX HRC HSR
            go_wp2_with (first
              | (refine wpList_plain rfl (fun K hK => wp_loadT aggCast _ rfl Y [.int .i64 s2.n, .slice ba' s2.m kb', .slice ha' s2.m kh', .slice ga' s2.n kg'] (by rfl) HYB.out rfl ?_); refine hK _ _ ?_; clear hK)
              | (refine wpList_plain rfl (fun K hK => wp_storeT aggCast _ _ rfl X [.int .i64 s2.n, .slice ba' s2.m kb', .slice ha' s2.m kh', .slice ga' s2.n kg'] _ (by rfl) (by rfl) rfl HXC.out rfl rfl ?_); intro w5 hB5 hc5; have HP5 := Lib.hid (HPUT.out _ _ _ _ _ _ _ _ _ HYC.out HYR.out hB5 hc5); clear hB5 hc5; refine hK _ _ ?_; clear hK))
            refine wp_region_plan (Chg (NewB w) w) 11 [(0,true),(1,true),(2,true),(3,true),(4,true),(5,true),(6,true),(8,true),(7,false),(9,false),(10,true)] mixed (by kernel_rfl) (HP5.out.chg.drew) ?_
            simp only [planOps, List.map_cons, List.map_nil, List.getElem?_cons_zero, List.getElem?_cons_succ, Option.getD_some]
            generalize hops : List.toArray _ = ops
            iterate 8 (refine wpPlan_quiet (v := ?_) rfl (fun _ _ _ h => h) (by intro w1 hS; have s0 := hS.cell_some dw nd0; have s1 := hS.cell_some dv nd0; clear hS; go_simp; with_reducible rfl) ?_; (simp only [Act.put, List.setIfInBounds_toArray, List.set_cons_zero, List.set_cons_succ]))
            refine wpPlan_loud rfl (fun K hK => ?_)
            go_simp
            obtain ⟨S5, hin5, hstep5⟩ := (HP5.out.no ((Chg.refl NoF w5).drew)).opn
            refine (HNT.out S5 _ hin5).mono ?_
            rintro e w6 ⟨rfl, hin6, hc6⟩
            have HP6 : Hid (PRel w w6 t k X s2 s2) := Lib.hid (hstep5 w6 _ hin6 hc6 (by have := HI2.out; exact this) HN2.out)
            refine hK _ _ (fun _ => HP6.out.chg) ?_
            clear hK K hin5 hstep5 hin6 hc6 HP5 HNT HPUT HP3
            (try simp only [Act.put, List.setIfInBounds_toArray, List.set_cons_zero, List.set_cons_succ])
            refine wpPlan_loud rfl (fun K hK => ?_)
            go_simp
            refine (error_any ke ke (by have := HER.out; omega) (by have := HER.out; omega) w6 (HG.out.new HP6.out.chg)).mono ?_
            rintro e w7 ⟨rfl, hc7⟩
            have HP7 := Lib.hid (HP6.out.no hc7)
            simp only [decide_true]
            refine hK _ _ (fun _ => HP7.out.chg) ?_
            clear hK K hc7 HP6
            (try simp only [Act.put, List.setIfInBounds_toArray, List.set_cons_zero, List.set_cons_succ])
            (refine wpPlan_quiet (v := ?_) rfl (fun _ _ _ h => h) (by intro w1 hS; clear hS; go_simp; with_reducible rfl) ?_; (simp only [Act.put, List.setIfInBounds_toArray, List.set_cons_zero, List.set_cons_succ]))
            clear hops
            refine wpPlan_nil ?_
            clear dw dv nd0
            go_wp2_with fail
            go_meet
            case rel => exact ⟨s2, HP7⟩
        · have hb1 : ((ln : Int) == 2) = false := by rw [beq_eq_false_iff_ne]; omega
          go_wp2_with fail
          go_meet
          case rel => exact ⟨s3, HP3⟩
      case rest =>
      obtain ⟨s4, HP4⟩ := hcut
      clear HP3
      go_wp2_with fail
      go_loopw [17] (fun i wr => ∃ p : Nat, p ≤ k ∧ i = .int .i64 p ∧ Hid (PRel w wr t k X s4 s4)) (fun i _ => k - (intOf i).toNat)
      case atStart => exact ⟨0, Nat.zero_le _, rfl, HP4⟩
      case round =>
        clear HP4
        obtain ⟨p, hpk, rfl, HP5⟩ := hrel
        by_cases hp : p < k
        · have hp1 : (p : Int) < k := by omega
          have HPK : Hid (p + 1 ≤ k) := Lib.hid hp
          have HPS : Hid (p < s4.n) := Lib.hid (by rw [HP5.out.hn]; exact hp)
          obtain ⟨S1, ba, kb, ha, kh, ga, kg, hS1, hBX, hRC, -⟩ := HP5.out.opnR
          obtain ⟨S5, hin5, -⟩ := HP5.out.opn
          have HGT := Lib.hid (got_any S5 _ t s4 (hin5.keep ((Chg.refl NoF wr).drew)) HP5.out.inv p)
          have e0 : s4.gotOf p = s4.got p := by
            unfold CNet.gotOf; rw [if_pos ((s4.is_iff p).2 ⟨p, rfl, HPS.out⟩), Int.toNat_natCast]
          rw [e0] at HGT
          have c3 : wr.cell? ⟨X, 3, none⟩ = some (.slice ga s4.n kg) := hBX.cell 3
          obtain ⟨bG, oG, cG, u, ev, dr, hru, hrl⟩ := hRC.lists.2.2.at (Chg.refl NoF wr) (fun _ _ h => h) (j := p) (by rw [s4.gotLs_len]; exact HPS.out)
          rw [s4.gotLs_at HPS.out] at hru hrl
          rw [s4.gotLs_len] at ev
          simp only [Value.slice.injEq] at ev
          obtain ⟨rfl, -, rfl⟩ := ev
          have HRU := Lib.hid hru
          have HRL := Lib.hid hrl
          obtain ⟨ua', uc', rfl⟩ := hru.val
          obtain ⟨gl, HGL⟩ : ∃ gl, Hid ((s4.got p).length = gl) := ⟨_, Lib.hid rfl⟩
          have HNN : Hid (s4.n = k) := Lib.hid HP5.out.hn
          rw [HGL.out] at dr HRU
          rw [HNN.out] at c3
          clear hS1 hBX hRC hin5 e0 hru hrl hp hpk
          rename_i wr _
          go_wp2_with fail
          refine wp_region_plan (Chg NoF wr) 10 [(0,true),(1,true),(3,true),(4,true),(5,true),(6,true),(7,true),(2,false),(8,false),(9,true)] mixed (by kernel_rfl) (Chg.refl _ _).drew ?_
          simp only [planOps, List.map_cons, List.map_nil, List.getElem?_cons_zero, List.getElem?_cons_succ, Option.getD_some]
          generalize hops : List.toArray _ = ops
          iterate 7 (refine wpPlan_quiet (v := ?_) rfl (fun _ _ _ h => h) (by intro w1 hS; have s0 := hS.cell_some c3 (fun h => h); have s1 := hS.cell_some dr (fun h => h); clear hS; go_simp; with_reducible rfl) ?_; (simp only [Act.put, List.setIfInBounds_toArray, List.set_cons_zero, List.set_cons_succ]))
          refine wpPlan_loud rfl (fun K hK => ?_)
          go_simp
          refine HGT.out.mono ?_
          rintro e w7 ⟨vg, rfl, hown, hc7⟩
          have HC7 : Hid (Chg NoF wr w7) := Lib.hid (((Chg.refl NoF wr).drew).trans hc7)
          have HGV := Lib.hid (Rd.ofOwns (S := fun _ => True) hown (fun _ _ => trivial))
          refine hK _ _ (fun _ => HC7.out) ?_
          clear hK K hown hc7 HGT
          (try simp only [Act.put, List.setIfInBounds_toArray, List.set_cons_zero, List.set_cons_succ])
          refine wpPlan_loud rfl (fun K hK => ?_)
          go_simp
          refine (ints_any (fun _ => True) _ _ _ _ w7 HGV.out ((HRU.out.keep HC7.out (fun _ _ h => h)).mono (fun _ _ _ => trivial)) HRL.out HRL.out).mono ?_
          rintro e w8 ⟨rfl, kz, rfl⟩
          simp only [decide_true]
          refine hK _ _ (fun _ => HC7.out.drewN kz) ?_
          clear hK K
          (try simp only [Act.put, List.setIfInBounds_toArray, List.set_cons_zero, List.set_cons_succ])
          (refine wpPlan_quiet (v := ?_) rfl (fun _ _ _ h => h) (by intro w1 hS; clear hS; go_simp; with_reducible rfl) ?_; (simp only [Act.put, List.setIfInBounds_toArray, List.set_cons_zero, List.set_cons_succ]))
          clear hops
          refine wpPlan_nil ?_
          have HP6 : Hid (PRel w (w7.drewN kz) t k X s4 s4) := Lib.hid (HP5.out.no (HC7.out.drewN kz))
          clear c3 dr HP5
          generalize w7.drewN kz = w9 at *
          go_wp2
          go_roundw
          case rel => exact ⟨p + 1, HPK.out, by go_num, HP6⟩
          case measure => have := HPK.out; simp [intOf]; omega
        · have hp1 : ¬ (p : Int) < k := by omega
          clear hp hpk
          go_wp2
          go_roundw
          case rel => first | exact ⟨j + 1, by omega, by omega, by go_num, s4, HP5⟩ | ((repeat apply Exists.intro); exact ⟨⟨by omega, by omega, by go_num, HP5⟩, rfl⟩)
          case measure => simp [intOf]; omega
    · have hb : ¬ (j : Int) < sl ∨ ((j : Int) < sl ∧ ¬ (j : Int) < 150) := by omega
      clear hlt
      have HINV : Hid (CInv s s.m) := Lib.hid HP.out.inv
      have HN : Hid (s.n = k) := Lib.hid HP.out.hn
      have HM20 : Hid (s.m ≤ 20) := Lib.hid HINV.out.m20
      obtain ⟨m, HM⟩ : ∃ m, Hid (s.m = m) := ⟨_, Lib.hid rfl⟩
      rw [HM.out] at HM20
      rcases hb with hb | ⟨hb1, hb2⟩
      all_goals
        go_wp2_with fail
        go_loopw [18, 19, 20] (fun i _ _ wr => ∃ q : Nat, q ≤ m ∧ i = .int .i64 q ∧ Hid (PRel w wr t k X s s)) (fun i _ _ _ => m - (intOf i).toNat)
        case atStart => exact ⟨0, Nat.zero_le _, rfl, HP⟩
        case round =>
          clear HP
          obtain ⟨q, hqm, rfl, HP⟩ := hrel
          obtain ⟨S1, ba, kb, ha, kh, ga, kg, hS1, hBX, hRC, -⟩ := HP.out.opnR
          obtain ⟨S5, hin5, -⟩ := HP.out.opn
          rw [HN.out, HM.out] at hBX
          have HIN := Lib.hid hin5
          have c1 : wr.cell? ⟨X, 1, none⟩ = some (.slice ba m kb) := hBX.cell 1
          have HBX := Lib.hid hBX
          have HRC := Lib.hid hRC
          clear hS1 hBX hRC hin5
          by_cases hq : q < m
          · have hq1 : (q : Int) < m := by omega
            have HQM : Hid (q + 1 ≤ m) := Lib.hid hq
            have HQS : Hid (q < s.m) := Lib.hid (by rw [HM.out]; exact hq)
            have hik : s.isNote q = true := (s.isNote_iff q).2 ⟨q, rfl, HQS.out⟩
            have HNT := Lib.hid (note_any S5 wr t s HIN.out HINV.out q)
            have e1 : s.byOf q = (s.bys q : Int) ∧ s.vecOf q = (List.range s.n).map (s.vec q) := by
              unfold CNet.byOf CNet.vecOf
              rw [if_pos hik, if_pos hik, Int.toNat_natCast]; exact ⟨rfl, rfl⟩
            rw [e1.1, e1.2] at HNT
            obtain ⟨y, HY⟩ : ∃ y, Hid (s.bys q = y) := ⟨_, Lib.hid rfl⟩
            obtain ⟨VL, HVL⟩ : ∃ VL, Hid ((List.range s.n).map (s.vec q) = VL) := ⟨_, Lib.hid rfl⟩
            have HVN : Hid (VL.length = k) := Lib.hid (by rw [← HVL.out]; simp [HN.out])
            rw [HY.out, HVL.out] at HNT
            have HHR := Lib.hid HRC.out.lists.2.1
            have HBR := Lib.hid HRC.out.lists.1
            clear e1 hik hq hqm
            go_wp2_with fail
            refine HNT.out.mono ?_
            rintro e w7 ⟨vn, rfl, hown, hc7⟩
            have HC7 := Lib.hid hc7
            have HGV := Lib.hid (Rd.ofOwns (S := fun _ => True) hown (fun _ _ => trivial))
            have c1o := c1
            clear c1
            rw [HVN.out] at hown
            obtain ⟨na, nc, rfl⟩ := owns_val hown
            have c1 : w7.cell? ⟨X, 1, none⟩ = some (.slice ba m kb) := (HBX.out.keep hc7 (fun h => h)).cell 1
            have c2 : w7.cell? ⟨X, 2, none⟩ = some (.slice ha m kh) := (HBX.out.keep hc7 (fun h => h)).cell 2
            obtain ⟨bB, oB, cB, eB, -, hcb⟩ := (HBR.out.keep hc7 (fun _ _ h => h)).form (by rw [s.byL_len, HM.out]; omega)
            rw [s.byL_len, HM.out] at eB
            simp only [Value.slice.injEq] at eB
            obtain ⟨rfl, -, rfl⟩ := eB
            have dy := hcb q (by rw [s.byL_len]; exact HQS.out)
            rw [s.byL_at HQS.out, HY.out] at dy
            obtain ⟨bH, oH, cH, uh, eh, dh, hruh, hrl⟩ := HHR.out.at hc7 (fun _ _ h => h) (j := q) (by rw [s.hadL_len]; exact HQS.out)
            rw [s.hadL_at HQS.out, HVL.out] at hruh hrl
            rw [s.hadL_len, HM.out] at eh
            simp only [Value.slice.injEq] at eh
            obtain ⟨rfl, -, rfl⟩ := eh
            have HRU := Lib.hid hruh
            have HRL := Lib.hid hrl
            obtain ⟨ha', hc', rfl⟩ := hruh.val
            have hyy : ((y : Int) != (y : Int)) = false := by simp
            have HP6 := Lib.hid (HP.out.no hc7)
            clear hown hc7 hcb hruh hrl HNT HBX HRC HIN HHR HBR HP c1o
            go_wp2_with fail
            refine (ints_any (fun _ => True) _ _ _ _ w7 HGV.out (HRU.out.mono (fun _ _ _ => trivial)) HRL.out HRL.out).mono ?_
            rintro e w8 ⟨rfl, kz, rfl⟩
            simp only [decide_true]
            have HP7 := Lib.hid (HP6.out.no ((Chg.refl NoF w7).drewN kz))
            clear c1 c2 dy dh HP6
            generalize w7.drewN kz = w9 at *
            have hq20 : (q : Int) + 1 ≤ 20 := by have := HQM.out; have := HM20.out; omega
            go_wp2
            go_roundw
            case rel => exact ⟨q + 1, HQM.out, by go_num, HP7⟩
            case measure => have := HQM.out; simp [intOf]; omega
          · have hq1 : ¬ (q : Int) < m := by omega
            have hno : s.isNote m = false := by
              cases h : s.isNote m with
              | false => rfl
              | true =>
                obtain ⟨a, h1, h2⟩ := (s.isNote_iff m).1 h
                rw [HM.out] at h2; omega
            have his : s.is k = false := by
              cases h : s.is k with
              | false => rfl
              | true =>
                obtain ⟨a, h1, h2⟩ := (s.is_iff k).1 h
                rw [HN.out] at h2; omega
            have HNT := Lib.hid (note_any S5 wr t s HIN.out HINV.out m)
            have e1 : s.byOf m = -1 ∧ s.vecOf m = [] := by
              unfold CNet.byOf CNet.vecOf
              rw [hno]; exact ⟨rfl, rfl⟩
            rw [e1.1, e1.2] at HNT
            have HGO : Hid (s.gotOf k = []) := Lib.hid (by unfold CNet.gotOf; rw [his]; rfl)
            clear e1 hno his hq hqm HBX HRC
            go_wp2_with fail
            refine HNT.out.mono ?_
            rintro e w7 ⟨vn, rfl, hown, hc7⟩
            have HP7 := Lib.hid (HP.out.no hc7)
            have hown0 : w7.ownsRow wr.heap.size 3 1 vn 0 [] := hown
            obtain ⟨na, nc, rfl⟩ := owns_val hown0
            obtain ⟨S7, hin7, -⟩ := HP7.out.opn
            have HGT := Lib.hid (got_any S7 w7 t s hin7 HINV.out k)
            rw [HGO.out] at HGT
            clear hown hown0 hin7 HNT c1 HIN hc7 HP
            go_wp2_with fail
            refine HGT.out.mono ?_
            rintro e w8 ⟨vg, rfl, hown, hc8⟩
            have hown0 : w8.ownsRow w7.heap.size 3 1 vg 0 [] := hown
            obtain ⟨ga', gc', rfl⟩ := owns_val hown0
            have HP8 := Lib.hid (HP7.out.no hc8)
            clear hown hown0 hc8 HP7 HGT
            go_wp2
            go_ret
            exact ⟨rfl, HP8.out.chg⟩

end Go.Proofs.YtiakkhahohhpaaaDoor
