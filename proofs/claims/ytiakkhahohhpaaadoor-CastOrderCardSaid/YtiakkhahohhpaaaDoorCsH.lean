/-
  The walk of CastOrder: nothing comes ahead of what it came of.
  Conditions: the steps are read as lists of integers; package errors' variable errorType holds the handle of the type 'error'.
-/
import Derived.Test.YtiakkhahohhpaaaDoorCsE
import Derived.Test.YtiakkhahohhpaaaDoorCsMath3
import Derived.Test.YtiakkhahohhpaaaDoorRef
namespace Go.Proofs.YtiakkhahohhpaaaDoor
open Go Go.RowKit

theorem CIn.lt {S : Nat → Prop} {w : World} {t : Nat} {s : CNet} (h : CIn S w t s) {b : Nat} (hb : S b) : b < w.heap.size := by
  obtain ⟨V, tag, h⟩ := h
  exact (h.hS b hb).2

theorem CIn.adopt {S F : Nat → Prop} {w w1 : World} {t : Nat} {s : CNet} (h : CIn S w t s) (hc : Chg F w w1) (hF : ∀ b, b < w.heap.size → F b → S b) : CIn (Plus S w w1) w1 t s := by
  obtain ⟨V, tag, h⟩ := h
  obtain ⟨tag', h'⟩ := Mem.adopt h hc hF
  exact ⟨V, tag', h'⟩

theorem CInv.order {s : CNet} {o : Nat} (h : CInv s o) {p : Nat} (hp : p < s.n) {x : Nat} (hx : x < (s.got p).length) :
    ∃ z : Nat, (s.got p).getD x 0 = z ∧ z < s.m ∧ (∀ y, y < x → (s.got p).getD y 0 ≠ z) ∧ ∀ c, c < (s.sg z).length → ∃ y, y < x ∧ (s.got p).getD y 0 = (s.sg z).getD c 0 := by
  have hg : ∀ y, y < (s.got p).length → ∃ hy : y < (s.got p).length, (s.got p).getD y 0 = (s.got p)[y] := fun y hy => ⟨hy, by simp [List.getD, hy]⟩
  have hsp := split_at hx
  obtain ⟨z, ez, hz⟩ := h.gotL p hp ((s.got p).getD x 0) (by
    rw [List.getD, List.getElem?_eq_getElem hx]; exact List.getElem_mem hx)
  rw [ez] at hsp
  refine ⟨z, ez, hz, fun y hy e => ?_, fun c hc => ?_⟩
  · obtain ⟨hy', e1⟩ := hg y (by omega)
    obtain ⟨hx', e2⟩ := hg x hx
    have := List.pairwise_iff_getElem.1 (h.gotN p hp) y x hy' hx' hy
    rw [← e1, ← e2, e, ez] at this
    exact this rfl
  · have hm : (s.sg z).getD c 0 ∈ (s.got p).take x := (h.ahead p hp _ _ z hsp).1 _ (by
      rw [List.getD, List.getElem?_eq_getElem hc]; exact List.getElem_mem hc)
    obtain ⟨y, hy, e⟩ := List.getElem_of_mem hm
    have hyx : y < x := by rw [List.length_take] at hy; omega
    refine ⟨y, hyx, ?_⟩
    rw [← e, List.getElem_take]
    obtain ⟨_, e1⟩ := hg y (by omega)
    exact e1

/-- What each note's sender had, in a slice of the law's own, beside the net. -/
structure HadW (w0 w : World) (t : Nat) (S : Nat → Prop) (s : CNet) (m : Nat) (sg : Nat → List Int) (hv : Value) : Prop where
  low : ∀ b, b < w0.heap.size → S b
  own : ∀ b, hv.ownBlock = some b → S b
  net : CIn S w t s
  chg : Chg (NewB w0) w0 w
  row : ∃ cells, w.ownsRow w0.heap.size 29 1 hv m cells ∧ ∀ k, k < m → ∃ u, cells[k]? = some u ∧ Rd (fun b => S b ∧ hv.ownBlock ≠ some b) w u (sg k) ∧ (sg k).length ≤ 20

theorem HadW.call {w0 w w1 : World} {t m : Nat} {S : Nat → Prop} {s s' : CNet} {sg : Nat → List Int} {hv : Value} (h : HadW w0 w t S s m sg hv) (hin : CIn S w1 t s') (hc : Chg (fun k => ¬ S k) w w1) : HadW w0 w1 t S s' m sg hv where
  low := h.low
  own := h.own
  net := hin
  chg := h.chg.trans (hc.mono fun b _ hb hlt => hb (h.low b hlt))
  row := by
    obtain ⟨cells, h1, h2⟩ := h.row
    refine ⟨cells, hc.row h1 (fun b hb hf => hf (h.own b hb)), fun k hk => ?_⟩
    obtain ⟨u, e, hr, hl⟩ := h2 k hk
    exact ⟨u, e, hr.keep hc (fun b hb hf => hf hb.1), hl⟩

theorem HadW.no {w0 w w1 : World} {t m : Nat} {S : Nat → Prop} {s : CNet} {sg : Nat → List Int} {hv : Value} (h : HadW w0 w t S s m sg hv) (hc : Chg NoF w w1) : HadW w0 w1 t S s m sg hv :=
  h.call (h.net.keep hc) hc.ofNo

theorem HadW.plus {w0 w w1 : World} {t m : Nat} {S : Nat → Prop} {s : CNet} {sg : Nat → List Int} {hv : Value} (h : HadW w0 w t S s m sg hv) (hc : Chg NoF w w1) : HadW w0 w1 t (Plus S w w1) s m sg hv where
  low := fun b hb => .inl (h.low b hb)
  own := fun b hb => .inl (h.own b hb)
  net := h.net.adopt hc fun _ _ hf => hf.elim
  chg := h.chg.trans hc.ofNo
  row := by
    obtain ⟨cells, h1, h2⟩ := (h.no hc).row
    refine ⟨cells, h1, fun k hk => ?_⟩
    obtain ⟨u, e, hr, hl⟩ := h2 k hk
    exact ⟨u, e, hr.mono fun b _ hb => ⟨.inl hb.1, hb.2⟩, hl⟩

theorem HadW.push {w0 w w2 : World} {t m : Nat} {S : Nat → Prop} {s : CNet} {sg : Nat → List Int} {hv v' u : Value} {cells : List Value} {l : List Int} (h : HadW w0 w t S s m sg hv)
    (hcells : cells.length = m ∧ ∀ k, k < m → ∃ u, cells[k]? = some u ∧ Rd (fun b => S b ∧ hv.ownBlock ≠ some b) w u (sg k) ∧ (sg k).length ≤ 20)
    (hu : Rd (fun b => S b ∧ hv.ownBlock ≠ some b) w u l) (hl : l.length ≤ 20) (hc : Chg (fun k => hv.ownBlock = some k) w w2) (ho : w2.ownsRow w0.heap.size 29 1 v' (m + 1) (cells ++ [u]))
    (hb : ∀ b, v'.ownBlock = some b → hv.ownBlock = some b ∨ w.heap.size ≤ b) (hn : ∀ b, hv.ownBlock = some b → ¬ b < w0.heap.size) : HadW w0 w2 t (Plus S w w2) s (m + 1) (put1 sg m l) v' where
  low := fun b hb => .inl (h.low b hb)
  own := fun b hb1 => by
    rcases hb b hb1 with h1 | h1
    · exact .inl (h.own b h1)
    · exact .inr ⟨h1, (ho.lt b hb1).2⟩
  net := h.net.adopt hc fun b _ hf => h.own b hf
  chg := h.chg.trans (hc.mono fun b _ hf => hn b hf)
  row := by
    have hst : ∀ (x : Value) (y : List Int), Rd (fun b => S b ∧ hv.ownBlock ≠ some b) w x y → Rd (fun b => Plus S w w2 b ∧ v'.ownBlock ≠ some b) w2 x y := fun x y hr =>
      (hr.keep hc (fun b hb hf => hb.2 hf)).mono fun b _ hb1 => ⟨.inl hb1.1, fun e => by
        rcases hb b e with h1 | h1
        · exact hb1.2 h1
        · have := h.net.lt hb1.1; omega⟩
    refine ⟨_, ho, fun k hk => ?_⟩
    by_cases e : k = m
    · subst e
      rw [put1_self]
      refine ⟨u, ?_, hst u l hu, hl⟩
      rw [List.getElem?_append_right (by omega), hcells.1, Nat.sub_self]; rfl
    · rw [put1_ne _ _ e]
      obtain ⟨u', e1, hr, hl'⟩ := hcells.2 k (by omega)
      exact ⟨u', by rw [List.getElem?_append_left (by omega)]; exact e1, hst u' _ hr, hl'⟩

theorem HadW.elem {w0 w : World} {t m : Nat} {S : Nat → Prop} {s : CNet} {sg : Nat → List Int} {hv : Value} (h : HadW w0 w t S s m sg hv) {z : Nat} (hz : z < m) :
    ∃ (g cap : Nat) (u : Value), hv = .slice (some ⟨g, 0, none⟩) m cap ∧ w.cell? ⟨g, z, none⟩ = some u ∧ Rd (fun _ => True) w u (sg z) ∧ (sg z).length ≤ 20 := by
  obtain ⟨cells, h1, h2⟩ := h.row
  obtain ⟨g, cap, rfl, _, _⟩ := h1.form (by omega)
  obtain ⟨u, e, hr, hl⟩ := h2 z hz
  exact ⟨g, cap, u, rfl, (h1.cellAt z (by omega)).trans e, hr.mono fun _ _ _ => trivial, hl⟩

/-- What stays true. -/
def HRel (w0 w : World) (t n : Nat) (s : CNet) (hv : Value) : Prop := ∃ S, HadW w0 w t S s s.m s.sg hv ∧ CInv s s.m ∧ s.n = n

theorem HRel.same {w0 w w1 : World} {t n : Nat} {s : CNet} {hv : Value} (h : HRel w0 w t n s hv) (hc : Chg NoF w w1) : HRel w0 w1 t n s hv := by
  obtain ⟨S, h1, h2, h3⟩ := h
  exact ⟨S, h1.no hc, h2, h3⟩

theorem take_sg (s : CNet) (p k : Int) : (s.take p k).sg = s.sg := by unfold CNet.take; split <;> rfl
theorem take_m' (s : CNet) (p k : Int) : (s.take p k).m = s.m := by unfold CNet.take; split <;> rfl

set_option maxHeartbeats 8000000 in
set_option maxRecDepth 100000 in
theorem order_walk (n : Int) (v : Value) (ll : List (List Int)) (w : World) (hg : As.Met w) (hr : Rd2 (fun k => k < w.heap.size) w v ll) (hlb : ll.length ≤ 9223372036854775807) :
    Calls Tryd.prog 3 #[.int .i64 n, v] w fun e w' => e = .returned (.bool true) ∧ Chg (NewB w) w w' := by
  have HR := Lib.hid hr
  have _ := hlb
  have HG := Lib.hid hg
  clear hr hg
  go_enter Tryd.func3, Tryd.ntmps3
  go_wp2_with fail
  refine (castFact_any w HG.out).mono ?_
  rintro e w1 ⟨rfl, hc1⟩
  go_wp2_with fail
  refine (new_any n w1).mono ?_
  rintro e w2 ⟨hc2, hnew⟩
  have HC1 := Lib.hid hc1
  have HC2 := Lib.hid hc2
  clear hc1 hc2
  rcases hnew with ⟨hbad, rfl⟩ | ⟨k, rfl, hk1, hk4, t, rfl, hin⟩
  · have hb : decide (n < 1) = true ∨ (decide (n < 1) = false ∧ decide (4 < n) = true) := by
      rcases Bool.and_eq_false_iff.1 hbad with h | h
      · left; rw [decide_eq_true_eq]; have := of_decide_eq_false h; omega
      · by_cases h1 : n < 1
        · left; rw [decide_eq_true_eq]; exact h1
        · right; rw [decide_eq_true_eq, decide_eq_false_iff_not]; have := of_decide_eq_false h; omega
    rw [show errV 1 = .iface 54 (.int .i64 1) from rfl]
    clear hbad
    rcases hb with hb | ⟨hb1, hb2⟩
    · go_wp2
      go_ret
      exact ⟨rfl, (HC1.out.trans HC2.out).ofNo⟩
    · go_wp2
      go_ret
      exact ⟨rfl, (HC1.out.trans HC2.out).ofNo⟩
  have HREL : Hid (HRel w w2 t k (CNet.init k) (.slice none 0 0)) := Lib.hid (by
    have h := CRel.start hk1 hk4 HC1.out HC2.out hin
    exact ⟨_, ⟨fun b hb => hb, fun b hb => by simp [Value.ownBlock] at hb, h.2.2.1, h.2.2.2, [], World.ownsRow_nil _ _ _ _, fun k hk => absurd hk (Nat.not_lt_zero _)⟩, CInv.start hk1 hk4, rfl⟩)
  clear hin
  obtain ⟨pv, cv, rfl⟩ := HR.out.val
  obtain ⟨sl, hSL⟩ : ∃ sl, Hid (ll.length = sl) := ⟨_, Lib.hid rfl⟩
  rw [hSL.out] at hlb HR ⊢
  go_wp2_with fail
  go_loopw [8, 9, 10, 11, 12, 13] (fun hv i _ _ _ _ wr => ∃ j : Nat, j ≤ sl ∧ j ≤ 150 ∧ i = .int .i64 j ∧ ∃ s, Hid (HRel w wr t k s hv)) (fun _ i _ _ _ _ _ => 150 - (intOf i).toNat)
  case atStart => exact ⟨0, Nat.zero_le _, Nat.zero_le _, rfl, _, HREL⟩
  case round =>
    clear HREL
    obtain ⟨j, hjsl, hj150, rfl, s, HT⟩ := hrel
    obtain ⟨S, HH, HINV, HN⟩ : ∃ S, Hid (HadW w wr t S s s.m s.sg u8) ∧ Hid (CInv s s.m) ∧ Hid (s.n = k) := by
      obtain ⟨S, h1, h2, h3⟩ := HT.out
      exact ⟨S, Lib.hid h1, Lib.hid h2, Lib.hid h3⟩
    obtain ⟨ha, hc0, rfl⟩ : ∃ a c, u8 = .slice a s.m c := by
      obtain ⟨cells, h1, _⟩ := HH.out.row
      exact owns_val h1
    obtain ⟨m, HM⟩ : ∃ m, Hid (s.m = m) := ⟨_, Lib.hid rfl⟩
    have HM20 : Hid (m ≤ 20) := Lib.hid (by rw [← HM.out]; exact HINV.out.m20)
    by_cases hlt : j < sl ∧ j < 150
    · obtain ⟨hlt1, hlt2⟩ := hlt
      obtain ⟨b, off, c, u, e1, hcell, hrow, hrl⟩ := HR.out.at HH.out.chg (fun b hb hn => hn hb) (j := j) (by rw [hSL.out]; exact hlt1)
      simp only [Value.slice.injEq] at e1
      obtain ⟨rfl, -, rfl⟩ := e1
      have hj1 : (j : Int) < sl := by omega
      have hj2 : (j : Int) < 150 := by omega
      have HROW := Lib.hid hrow
      obtain ⟨la, lc, rfl⟩ := hrow.val
      obtain ⟨ln, HLN⟩ : ∃ ln, Hid ((ll.getD j []).length = ln) := ⟨_, Lib.hid rfl⟩
      rw [HM.out]
      rw [HLN.out] at hcell HROW hrl
      clear hrow hjsl hj150 HT
      by_cases hl1 : ln = 1
      · subst hl1
        obtain ⟨lb, lo, lcc, elv, -, hlc⟩ := HROW.out.form (by rw [HLN.out]; omega)
        rw [HLN.out] at hlc elv
        simp only [Value.slice.injEq] at elv
        obtain ⟨rfl, -, rfl⟩ := elv
        have d0 := hlc 0 (by omega)
        obtain ⟨x, HX⟩ : ∃ x, Hid ((ll.getD j []).getD 0 0 = x) := ⟨_, Lib.hid rfl⟩
        rw [HX.out, Nat.add_zero] at d0
        have hwk : wrap64 ((k : Int) - 1) = (k : Int) - 1 := IntWalk.wrap64_in _ (by omega)
        clear hlc
        go_wp2_with fail
        refine (lawIn_any _ _ _ _).mono ?_
        rintro e wi ⟨rfl, rfl⟩
        cases hin : inB x 0 ((k : Int) - 1) with
        | false =>
          clear hin
          go_wp2
          go_roundw
          case rel => exact ⟨j + 1, by omega, by omega, by go_num, s, Lib.hid ⟨S, by rw [← HM.out]; exact HH.out, HINV.out, HN.out⟩⟩
          case measure => simp [intOf]; omega
        | true =>
          obtain ⟨p, rfl, hp⟩ : ∃ p : Nat, x = p ∧ p < k := by
            have : 0 ≤ x ∧ x ≤ (k : Int) - 1 := by simpa [inB] using hin
            exact ⟨x.toNat, by omega, by omega⟩
          have hps : p < s.n := by rw [HN.out]; exact hp
          have e0 : s.gotOf p = s.got p := by
            unfold CNet.gotOf; rw [if_pos ((s.is_iff p).2 ⟨p, rfl, hps⟩), Int.toNat_natCast]
          have HG := Lib.hid (got_any _ _ t s HH.out.net HINV.out p)
          rw [e0] at HG
          have HGLL : Hid ((s.got p).length ≤ 20) := Lib.hid (by have := HINV.out.got_le hps; have := HINV.out.m20; omega)
          have HPS := Lib.hid hps
          clear hin e0
          go_wp2_with fail
          refine HG.out.mono ?_
          rintro e wg ⟨vg, rfl, hown, hcg⟩
          have HH2 := Lib.hid (HH.out.plus hcg)
          have HWAS : Hid (Rd (fun b => Plus S wr wg b ∧ (Value.slice ha s.m hc0).ownBlock ≠ some b) wg vg (s.got p)) := Lib.hid (Rd.ofOwns hown (fun b hb => ⟨.inr (hown.lt b hb), fun e => by
            have h1 := HH.out.net.lt (HH.out.own b e)
            have h2 := (hown.lt b hb).1
            omega⟩))
          obtain ⟨ga, gc, rfl⟩ := owns_val hown
          have HSD := Lib.hid (send_any _ wg t s HH2.out.net HINV.out p)
          have dG := HROW.out
          have d1 := hcg.cell_some d0 (fun h => h)
          obtain ⟨gn, HGN⟩ : ∃ gn, Hid ((s.got p).length = gn) := ⟨_, Lib.hid rfl⟩
          rw [HGN.out] at HWAS HGLL ⊢
          clear hown hcg HG d0 dG hcell
          go_wp2_with fail
          refine HSD.out.mono ?_
          rintro e ws ⟨rfl, hin, hcs⟩
          have HH3 := Lib.hid (HH2.out.call hin hcs)
          have HWAS2 := Lib.hid (HWAS.out.keep hcs (fun b hb hf => hf hb.1))
          clear hin hcs HSD HWAS d1
          by_cases hE : s.sendErr p = 0
          · have HS' : Hid ((s.send p).m = m + 1 ∧ (s.send p).sg = put1 s.sg s.m (s.got p) ∧ (s.send p).n = k) := Lib.hid (by
              refine ⟨?_, ?_, by rw [CNet.send_n]; exact HN.out⟩
              · unfold CNet.send; rw [if_pos hE, ← HM.out]; rfl
              · unfold CNet.send; rw [if_pos hE, Int.toNat_natCast]; rfl)
            have HINV' := Lib.hid (HINV.out.send p)
            rw [hE, show errV 0 = .nilIface from rfl]
            obtain ⟨cells, hrow, hcl⟩ := HH3.out.row
            have HCL : Hid (cells.length = s.m ∧ _) := Lib.hid ⟨by have := hrow.1; omega, hcl⟩
            have hrow' := owns_zero hrow
            rw [HM.out] at hrow hrow'
            have HROW2 := Lib.hid hrow
            have HOWN : Hid (∀ b, (Value.slice ha m hc0).ownBlock = some b → ¬ b < w.heap.size) := Lib.hid fun b hb => by have := (hrow.lt b hb).1; omega
            have hm20 := HM20.out
            obtain ⟨i1, hi', hz0', hz1', hz2'⟩ := info_parts infoRow
            have HSZ : Hid (w.heap.size ≤ ws.heap.size) := Lib.hid HH3.out.chg.size
            clear hcl hE hrow hrow'
            go_wp2_with (at_builtin; refine wpList_append_lies _ rfl _ _ 22 rfl w.heap.size 29 i1 (.slice none 0 0) 1 24 Tryd.underlying22 hi' hz0' hz1' hz2' rfl (by decide) (.slice ha m hc0) m cells rfl (((Chg.refl NoF ws).alloc _).row HROW2.out (fun _ _ h => h)) ⟨ws.heap.size, 0, none⟩ 1 1 [.slice ga gn gc] rfl rfl (World.news_of_block (cs := #[.slice ga gn gc]) (t := 29) (fr := (0, 0)) (heap_alloc_new ws _)) (by simp [Value.oneCell']) (by omega) (by unfold maxLen; omega) (by omega) (by have := HSZ.out; simp; omega) _ rfl ?_; intro g5 cap5 w8 hown8 hgrow8 hat8 hlt8; have HO8 := Lib.hid hown8; have HG8 := Lib.hid hgrow8; have HA8 := Lib.hid hat8; clear hown8 hgrow8 hat8 hlt8)
            have HFIN : Hid (HRel w w8 t k (s.send p) (.slice (some ⟨g5, 0, none⟩) (m + 1) cap5)) := Lib.hid (by
              have hc8 : Chg (fun b => (Value.slice ha m hc0).ownBlock = some b) ws w8 := ((Chg.refl _ ws).alloc _).grown HG8.out (fun k hk => .inl hk)
              have hP := HadW.push (v' := .slice (some ⟨g5, 0, none⟩) (m + 1) cap5) (u := .slice ga gn gc) (l := s.got p) (cells := cells) HH3.out HCL.out HWAS2.out (by rw [HGN.out]; exact HGLL.out) (by rw [HM.out]; exact hc8) (by rw [HM.out]; exact HO8.out) (fun b hb => by
                rw [HM.out]
                obtain rfl : g5 = b := by simpa [Value.ownBlock] using hb
                rcases HA8.out with h1 | h1
                · exact .inl h1
                · right; simp at h1; omega) (by rw [HM.out]; exact HOWN.out)
              obtain ⟨e1, e2, e3⟩ := HS'.out
              rw [HM.out] at hP
              refine ⟨Plus (Plus S wr wg) ws w8, ?_, HINV'.out, e3⟩
              rw [e1, e2, HM.out]
              exact hP)
            clear HO8 HG8 HA8 HROW2 HCL hm20
            go_wp2
            go_roundw
            case rel => exact ⟨j + 1, by omega, by omega, by go_num, _, HFIN⟩
            case measure => simp [intOf]; omega
          · have HSE : Hid (s.send p = s) := Lib.hid (by unfold CNet.send; rw [if_neg hE])
            have HEV : Hid (errV (s.sendErr p) = .iface 54 (.int .i64 (s.sendErr p))) := Lib.hid (by unfold errV; rw [if_neg hE])
            rw [HEV.out]
            have HFIN : Hid (HRel w ws t k s (.slice ha m hc0)) := Lib.hid ⟨_, by rw [← HM.out]; have := HH3.out; rw [HSE.out] at this; exact this, HINV.out, HN.out⟩
            clear hE
            go_wp2
            go_roundw
            case rel => exact ⟨j + 1, by omega, by omega, by go_num, _, HFIN⟩
            case measure => simp [intOf]; omega
      · by_cases hl2 : ln = 2
        · subst hl2
          obtain ⟨lb, lo, lcc, elv, -, hlc⟩ := HROW.out.form (by rw [HLN.out]; omega)
          rw [HLN.out] at hlc elv
          simp only [Value.slice.injEq] at elv
          obtain ⟨rfl, -, rfl⟩ := elv
          have d0 := hlc 0 (by omega)
          have d1 := hlc 1 (by omega)
          obtain ⟨x, HX⟩ : ∃ x, Hid ((ll.getD j []).getD 0 0 = x) := ⟨_, Lib.hid rfl⟩
          obtain ⟨y, HY⟩ : ∃ y, Hid ((ll.getD j []).getD 1 0 = y) := ⟨_, Lib.hid rfl⟩
          rw [HX.out, Nat.add_zero] at d0
          rw [HY.out] at d1
          have HTK := Lib.hid (take_any S wr.drew t s (HH.out.net.keep ((Chg.refl NoF wr).drew)) HINV.out x y)
          clear hlc hl1
          go_wp2_with fail
          refine wp_region_plan (Chg NoF wr) 7 [(0,true),(1,true),(2,true),(3,true),(4,true),(5,true),(6,true),(7,false)] mixed (by kernel_rfl) (Chg.refl _ _).drew ?_
          simp only [planOps, List.map_cons, List.map_nil, List.getElem?_cons_zero, List.getElem?_cons_succ, Option.getD_some]
          generalize hops : List.toArray _ = ops
          iterate 7 (refine wpPlan_quiet (v := ?_) rfl (fun _ _ _ h => h) (by intro w1 hS; have s0 := hS.cell_some d0 (fun h => h); have s1 := hS.cell_some d1 (fun h => h); clear hS; go_simp; with_reducible rfl) ?_; (simp only [Act.put, List.setIfInBounds_toArray, List.set_cons_zero, List.set_cons_succ]))
          refine wpPlan_loud rfl (fun K hK => ?_)
          go_simp
          refine HTK.out.mono ?_
          rintro e w1 ⟨rfl, hin, hcc⟩
          refine hK _ _ (fun h => absurd rfl h) ?_
          clear hK K
          clear hops
          refine wpPlan_nil ?_
          have HFIN : Hid (HRel w w1 t k (s.take x y) (.slice ha m hc0)) := Lib.hid (by
            refine ⟨S, ?_, HINV.out.take x y, by rw [CNet.take_n]; exact HN.out⟩
            rw [take_sg, take_m', ← HM.out]
            exact (HH.out.no ((Chg.refl NoF wr).drew)).call hin hcc)
          clear d0 d1 hin hcc HTK hcell
          go_wp2
          go_roundw
          case rel => exact ⟨j + 1, by omega, by omega, by go_num, _, HFIN⟩
          case measure => simp [intOf]; omega
        · have b1 : ((ln : Int) == 1) = false := by rw [beq_eq_false_iff_ne]; omega
          have b2 : ((ln : Int) == 2) = false := by rw [beq_eq_false_iff_ne]; omega
          clear hl1 hl2
          go_wp2
          go_roundw
          case rel => exact ⟨j + 1, by omega, by omega, by go_num, s, Lib.hid ⟨S, by rw [← HM.out]; exact HH.out, HINV.out, HN.out⟩⟩
          case measure => simp [intOf]; omega
    · have HREL2 : Hid (HadW w wr t S s m s.sg (.slice ha m hc0)) := Lib.hid (by have := HH.out; rw [HM.out] at this; exact this)
      rw [HM.out]
      have hb : ¬ (j : Int) < sl ∨ ((j : Int) < sl ∧ ¬ (j : Int) < 150) := by omega
      clear hlt HT HH
      rcases hb with hb | ⟨hb1, hb2⟩
      all_goals
        go_wp2_with fail
        go_loopw [14, 15, 16, 17, 18, 19, 20] (fun i _ _ _ _ _ _ wr => ∃ p : Nat, p ≤ k ∧ i = .int .i64 p ∧ Hid (HadW w wr t S s m s.sg (.slice ha m hc0))) (fun i _ _ _ _ _ _ _ => k - (intOf i).toNat)
        case atStart => exact ⟨0, Nat.zero_le _, rfl, HREL2⟩
        case round =>
          clear HREL2
          obtain ⟨p, hpk, rfl, HP⟩ := hrel
          by_cases hp : p < k
          · have hp1 : (p : Int) < k := by omega
            have HPK : Hid (p < k) := Lib.hid hp
            have HGP := Lib.hid (got_any _ _ t s HP.out.net HINV.out p)
            have e0 : s.gotOf p = s.got p := by
              unfold CNet.gotOf; rw [if_pos ((s.is_iff p).2 ⟨p, rfl, by rw [HN.out]; omega⟩), Int.toNat_natCast]
            rw [e0] at HGP
            have HGL : Hid ((s.got p).length ≤ 20) := Lib.hid (by have := HINV.out.got_le (p := p) (by rw [HN.out]; exact hp); have := HINV.out.m20; omega)
            obtain ⟨gl, HGLE⟩ : ∃ gl, Hid ((s.got p).length = gl) := ⟨_, Lib.hid rfl⟩
            clear e0 hpk hp
            go_wp2_with fail
            refine HGP.out.mono ?_
            rintro e wq ⟨vq, rfl, hown, hc⟩
            obtain ⟨va, vc, rfl⟩ := owns_val hown
            have HX0 : Hid (HadW w wq t S s m s.sg (.slice ha m hc0) ∧ Rd (fun _ => True) wq (.slice va (s.got p).length vc) (s.got p)) := Lib.hid ⟨HP.out.no hc, Rd.ofOwns hown (fun _ _ => trivial)⟩
            rw [HGLE.out] at HGL HX0 ⊢
            have hgl20 : gl ≤ 20 := HGL.out
            clear hown hc HGP HP
            go_wp2_with fail
            go_loopw [16, 17, 18, 19, 20] (fun i _ _ _ _ wr => ∃ x : Nat, x ≤ gl ∧ i = .int .i64 x ∧ Hid (HadW w wr t S s m s.sg (.slice ha m hc0) ∧ Rd (fun _ => True) wr (.slice va gl vc) (s.got p))) (fun i _ _ _ _ _ => gl - (intOf i).toNat)
            case atStart => exact ⟨0, Nat.zero_le _, rfl, HX0⟩
            case round =>
              clear HX0
              obtain ⟨x, hxg, rfl, HX⟩ := hrel
              by_cases hx : x < gl
              · have hx1 : (x : Int) < gl := by omega
                obtain ⟨z, ez, hzm, hnd, hall⟩ := HINV.out.order (p := p) (by rw [HN.out]; exact HPK.out) (x := x) (by rw [HGLE.out]; exact hx)
                have HALL := Lib.hid hall
                have HND := Lib.hid hnd
                have HEZ := Lib.hid ez
                rw [HM.out] at hzm
                obtain ⟨bG, off, cG, eG, -, hcell⟩ := HX.out.2.form (by rw [HGLE.out]; omega)
                rw [HGLE.out] at hcell eG
                have d0 := hcell x hx
                rw [ez] at d0
                simp only [Value.slice.injEq] at eG
                obtain ⟨rfl, -, rfl⟩ := eG
                have hz1 : (z : Int) < m := by omega
                have hm20 := HM20.out
                have HIN : Hid (inB (z : Int) 0 ((m : Int) - 1) = true) := Lib.hid (by simp [inB]; omega)
                have hwm : wrap64 ((m : Int) - 1) = (m : Int) - 1 := IntWalk.wrap64_in _ (by omega)
                have HZM := Lib.hid hzm
                have HXG : Hid (x < gl) := Lib.hid hx
                clear hall hnd hcell hxg ez hzm
                go_wp2_with fail
                refine (lawIn_any _ _ _ _).mono ?_
                rintro e wi ⟨rfl, rfl⟩
                rw [HIN.out]
                clear d0
                go_wp2_with fail
                go_loopw [17] (fun i wr => ∃ y : Nat, y ≤ x ∧ i = .int .i64 y ∧ Hid (HadW w wr t S s m s.sg (.slice ha m hc0) ∧ Rd (fun _ => True) wr (.slice (some ⟨bG, off, none⟩) gl vc) (s.got p))) (fun i _ => x - (intOf i).toNat)
                case atStart => exact ⟨0, Nat.zero_le _, rfl, HX⟩
                case round =>
                  clear HX
                  obtain ⟨y, hyx, rfl, HY⟩ := hrel
                  obtain ⟨bG', off', cG, eG, -, hcell⟩ := HY.out.2.form (by rw [HGLE.out]; omega)
                  rw [HGLE.out] at hcell eG
                  simp only [Value.slice.injEq, Option.some.injEq, Addr.mk.injEq, and_true] at eG
                  obtain ⟨⟨rfl, rfl⟩, -, rfl⟩ := eG
                  by_cases hy : y < x
                  · have hy1 : (y : Int) < x := by omega
                    have d0 := hcell x HXG.out
                    have d1 := hcell y (by omega)
                    rw [HEZ.out] at d0
                    obtain ⟨v, HV⟩ : ∃ v, Hid ((s.got p).getD y 0 = v) := ⟨_, Lib.hid rfl⟩
                    rw [HV.out] at d1
                    have hvz : (v == (z : Int)) = false := by rw [beq_eq_false_iff_ne, ← HV.out]; exact HND.out y hy
                    have hy2 : (y : Int) < gl := by omega
                    clear hcell
                    rename_i wr _
                    go_wp2_with fail
                    refine wp_region_plan (Chg NoF wr) 9 [(0,true),(1,true),(2,true),(3,true),(4,true),(5,true),(6,true),(7,true),(8,true)] mixed (by kernel_rfl) (Chg.refl _ _).drew ?_
                    simp only [planOps, List.map_cons, List.map_nil, List.getElem?_cons_zero, List.getElem?_cons_succ, Option.getD_some]
                    generalize hops : List.toArray _ = ops
                    iterate 9 (refine wpPlan_quiet (v := ?_) rfl (fun _ _ _ h => h) (by intro w1 hS; have s0 := hS.cell_some d0 (fun h => h); have s1 := hS.cell_some d1 (fun h => h); clear hS; go_simp; with_reducible rfl) ?_; (simp only [Act.put, List.setIfInBounds_toArray, List.set_cons_zero, List.set_cons_succ]))
                    clear hops
                    refine wpPlan_nil ?_
                    have HY2 : Hid (HadW w wr.drew t S s m s.sg (.slice ha m hc0) ∧ Rd (fun _ => True) wr.drew (.slice (some ⟨bG, off, none⟩) gl vc) (s.got p)) := Lib.hid ⟨HY.out.1.no ((Chg.refl NoF wr).drew), HY.out.2.keep ((Chg.refl NoF wr).drew) (fun _ _ h => h)⟩
                    clear d0 d1 HY
                    generalize wr.drew = wr2 at *
                    go_wp2
                    go_roundw
                    case rel => exact ⟨y + 1, by omega, by go_num, HY2⟩
                    case measure => simp [intOf]; omega
                  · have hy1 : ¬ (y : Int) < x := by omega
                    have hyx' : y = x := by omega
                    clear hy hyx hcell
                    -- what its sender had
                    have HST := HY
                    clear hyx' HY
                    go_wp2_with fail
                    go_loopw [18, 19, 20] (fun i _ _ wr => ∃ c : Nat, c ≤ 20 ∧ c ≤ (s.sg z).length ∧ i = .int .i64 c ∧ Hid (HadW w wr t S s m s.sg (.slice ha m hc0) ∧ Rd (fun _ => True) wr (.slice (some ⟨bG, off, none⟩) gl vc) (s.got p))) (fun i _ _ _ => 20 - (intOf i).toNat)
                    case atStart => exact ⟨0, Nat.zero_le _, Nat.zero_le _, rfl, HST⟩
                    case round =>
                      clear HST
                      obtain ⟨c, hc20, hcl, rfl, HC⟩ := hrel
                      obtain ⟨bG', off', cG, eG, -, hcell⟩ := HC.out.2.form (by rw [HGLE.out]; omega)
                      rw [HGLE.out] at hcell eG
                      simp only [Value.slice.injEq, Option.some.injEq, Addr.mk.injEq, and_true] at eG
                      obtain ⟨⟨rfl, rfl⟩, -, rfl⟩ := eG
                      have d0 := hcell x HXG.out
                      rw [HEZ.out] at d0
                      obtain ⟨hg, hcap, su, eH, dH, hsu, hsl⟩ := HC.out.1.elem HZM.out
                      simp only [Value.slice.injEq] at eH
                      obtain ⟨rfl, -, rfl⟩ := eH
                      obtain ⟨sa, sc, rfl⟩ := hsu.val
                      obtain ⟨ls, HLS⟩ : ∃ ls, Hid ((s.sg z).length = ls) := ⟨_, Lib.hid rfl⟩
                      rw [HLS.out] at dH hsl hcl
                      clear hcell hsu
                      by_cases hcc : c < ls
                      · have hc1 : (c : Int) < ls := by omega
                        have HCL : Hid (c < ls ∧ ls ≤ 20) := Lib.hid ⟨hcc, hsl⟩
                        obtain ⟨q, HQ⟩ : ∃ q, Hid ((s.sg z).getD c 0 = q) := ⟨_, Lib.hid rfl⟩
                        go_wp2_with fail
                        clear d0 dH
                        go_loopw [19, 20] (fun th i wr => ∃ y : Nat, ∃ b : Bool, y ≤ x ∧ i = .int .i64 y ∧ th = .bool b ∧ Hid ((HadW w wr t S s m s.sg (.slice (some ⟨hg, 0, none⟩) m hc0) ∧ Rd (fun _ => True) wr (.slice (some ⟨bG, off, none⟩) gl vc) (s.got p)) ∧ (b = true ↔ ∃ y', y' < y ∧ (s.got p).getD y' 0 = q))) (fun _ i _ => x - (intOf i).toNat)
                        case atStart => exact ⟨0, false, Nat.zero_le _, rfl, rfl, Lib.hid ⟨HC.out, by simp⟩⟩
                        case round =>
                          clear HC
                          obtain ⟨y, b, hyx, rfl, rfl, HY⟩ := hrel
                          by_cases hy : y < x
                          · have hy1 : (y : Int) < x := by omega
                            obtain ⟨bG', off', cG, eG, -, hcell⟩ := HY.out.1.2.form (by rw [HGLE.out]; omega)
                            rw [HGLE.out] at hcell eG
                            simp only [Value.slice.injEq, Option.some.injEq, Addr.mk.injEq, and_true] at eG
                            obtain ⟨⟨rfl, rfl⟩, -, rfl⟩ := eG
                            have d0 := hcell x HXG.out
                            have d1 := hcell y (by omega)
                            rw [HEZ.out] at d0
                            obtain ⟨v, HV⟩ : ∃ v, Hid ((s.got p).getD y 0 = v) := ⟨_, Lib.hid rfl⟩
                            rw [HV.out] at d1
                            obtain ⟨hg', hcap', su, eH, dH, hsu, -⟩ := HY.out.1.1.elem HZM.out
                            simp only [Value.slice.injEq, Option.some.injEq, Addr.mk.injEq, and_true] at eH
                            obtain ⟨rfl, -, rfl⟩ := eH
                            obtain ⟨sb, so, sc2, rfl, -, hsc⟩ := hsu.form (by rw [HLS.out]; have := HCL.out; omega)
                            rw [HLS.out] at dH
                            have d2 := hsc c (by rw [HLS.out]; exact HCL.out.1)
                            rw [HQ.out] at d2
                            have hy2 : (y : Int) < gl := by omega
                            have HST2 : Hid (HadW w wr.drew t S s m s.sg (.slice (some ⟨hg, 0, none⟩) m hc0) ∧ Rd (fun _ => True) wr.drew (.slice (some ⟨bG, off, none⟩) gl vc) (s.got p)) := Lib.hid ⟨HY.out.1.1.no ((Chg.refl NoF wr).drew), HY.out.1.2.keep ((Chg.refl NoF wr).drew) (fun _ _ h => h)⟩
                            have HYX : Hid (y + 1 ≤ x) := Lib.hid hy
                            clear hcell hsc hsu hy hyx
                            cases b with
                            | true =>
                              have HB : Hid (∃ y', y' < y + 1 ∧ (s.got p).getD y' 0 = q) := Lib.hid (by
                                obtain ⟨y', h1, h2⟩ := HY.out.2.1 rfl
                                exact ⟨y', by omega, h2⟩)
                              clear HY
                              go_wp2_with fail
                              refine wp_region_plan (Chg NoF wr) 19 [(0,true),(1,true),(2,true),(3,true),(4,true),(5,true),(6,true),(7,true),(8,true),(9,true),(10,true),(11,true),(12,true),(13,true),(14,true),(15,true),(16,true),(17,true),(18,true)] mixed (by kernel_rfl) (Chg.refl _ _).drew ?_
                              simp only [planOps, List.map_cons, List.map_nil, List.getElem?_cons_zero, List.getElem?_cons_succ, Option.getD_some]
                              generalize hops : List.toArray _ = ops
                              iterate 2 (refine wpPlan_quiet (v := ?_) rfl (fun _ _ _ h => h) (by intro w1 hS; clear hS; go_simp; with_reducible rfl) ?_; (simp only [Act.put, List.setIfInBounds_toArray, List.set_cons_zero, List.set_cons_succ]))
                              iterate 15 (refine wpPlan_skip (by rw [← hops]; rfl) (fun _ _ _ h => h) ?_; (simp only [Act.put, List.setIfInBounds_toArray, List.set_cons_zero, List.set_cons_succ]))
                              iterate 2 (refine wpPlan_quiet (v := ?_) rfl (fun _ _ _ h => h) (by intro w1 hS; clear hS; go_simp; with_reducible rfl) ?_; (simp only [Act.put, List.setIfInBounds_toArray, List.set_cons_zero, List.set_cons_succ]))
                              clear hops
                              refine wpPlan_nil ?_
                              clear d0 d1 d2 dH
                              generalize wr.drew = wr2 at *
                              go_wp2
                              go_roundw
                              case rel => exact ⟨y + 1, true, HYX.out, by go_num, rfl, Lib.hid ⟨HST2.out, ⟨fun _ => HB.out, fun _ => rfl⟩⟩⟩
                              case measure => have := HYX.out; simp [intOf]; omega
                            | false =>
                              have HB : Hid ((v == q) = true ↔ ∃ y', y' < y + 1 ∧ (s.got p).getD y' 0 = q) := Lib.hid (by
                                rw [beq_iff_eq]
                                constructor
                                · intro e; exact ⟨y, by omega, by rw [HV.out]; exact e⟩
                                · rintro ⟨y', h1, h2⟩
                                  by_cases e : y' = y
                                  · subst e; rw [← HV.out]; exact h2
                                  · have := HY.out.2.2 ⟨y', by omega, h2⟩
                                    cases this)
                              clear HY
                              go_wp2_with fail
                              refine wp_region_plan (Chg NoF wr) 19 [(0,true),(1,true),(2,true),(3,true),(4,true),(5,true),(6,true),(7,true),(8,true),(9,true),(10,true),(11,true),(12,true),(13,true),(14,true),(15,true),(16,true),(17,true),(18,true)] mixed (by kernel_rfl) (Chg.refl _ _).drew ?_
                              simp only [planOps, List.map_cons, List.map_nil, List.getElem?_cons_zero, List.getElem?_cons_succ, Option.getD_some]
                              generalize hops : List.toArray _ = ops
                              iterate 2 (refine wpPlan_quiet (v := ?_) rfl (fun _ _ _ h => h) (by intro w1 hS; clear hS; go_simp; with_reducible rfl) ?_; (simp only [Act.put, List.setIfInBounds_toArray, List.set_cons_zero, List.set_cons_succ]))
                              iterate 15 (refine wpPlan_quietG (v := ?_) (by rw [← hops]; rfl) (fun _ _ _ h => h) (by intro w1 hS; have s0 := hS.cell_some d0 (fun h => h); have s1 := hS.cell_some d1 (fun h => h); have s2 := hS.cell_some d2 (fun h => h); have s3 := hS.cell_some dH (fun h => h); clear hS; go_simp; with_reducible rfl) ?_; (simp only [Act.put, List.setIfInBounds_toArray, List.set_cons_zero, List.set_cons_succ]))
                              iterate 2 (refine wpPlan_quiet (v := ?_) rfl (fun _ _ _ h => h) (by intro w1 hS; clear hS; go_simp; with_reducible rfl) ?_; (simp only [Act.put, List.setIfInBounds_toArray, List.set_cons_zero, List.set_cons_succ]))
                              clear hops
                              refine wpPlan_nil ?_
                              clear d0 d1 d2 dH
                              generalize wr.drew = wr2 at *
                              go_wp2
                              go_roundw
                              case rel => exact ⟨y + 1, (v == q), HYX.out, by go_num, rfl, Lib.hid ⟨HST2.out, HB.out⟩⟩
                              case measure => have := HYX.out; simp [intOf]; omega
                          · have hy1 : ¬ (y : Int) < x := by omega
                            obtain rfl : b = true := by
                              obtain ⟨y', h1, h2⟩ := HALL.out c (by rw [HLS.out]; exact HCL.out.1)
                              exact HY.out.2.2 ⟨y', by omega, by rw [← HQ.out]; exact h2⟩
                            have HST3 := Lib.hid HY.out.1
                            have hc19 : (c : Int) + 1 ≤ 20 := by have := HCL.out; omega
                            clear HY hy hyx
                            go_wp2
                            go_roundw
                            case rel => have := HCL.out; exact ⟨c + 1, by omega, by rw [HLS.out]; omega, by go_num, HST3⟩
                            case measure => have := HCL.out; simp [intOf]; omega
                      · have hc1 : ¬ (c : Int) < ls := by omega
                        have hx20 : (x : Int) + 1 ≤ 20 := by omega
                        clear hcc hcl hc20
                        go_wp2
                        go_roundw
                        case rel => exact ⟨x + 1, by have := HXG.out; omega, by go_num, HC⟩
                        case measure => have := HXG.out; simp [intOf]; omega
              · have hx1 : ¬ (x : Int) < gl := by omega
                have HP2 : Hid (HadW w wr t S s m s.sg (.slice ha m hc0)) := Lib.hid HX.out.1
                clear HX hx hxg
                go_wp2
                go_roundw
                case rel => exact ⟨p + 1, HPK.out, by go_num, HP2⟩
                case measure => have := HPK.out; simp [intOf]; omega
          · have hp1 : ¬ (p : Int) < k := by omega
            have HEND : Hid (Chg (NewB w) w wr) := Lib.hid HP.out.chg
            clear HP hp hpk
            go_wp2
            go_ret
            exact ⟨rfl, HEND.out⟩

end Go.Proofs.YtiakkhahohhpaaaDoor
