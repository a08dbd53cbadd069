/-
  The walk of CastFifo: of one sender's notes each node has the first ones, in order.
  Conditions: the steps are read as lists of integers; package errors' variable errorType holds the handle of the type 'error'.
-/
import Derived.Test.YtiakkhahohhpaaaDoorCsE
import Derived.Test.YtiakkhahohhpaaaDoorCsMath3
import Derived.Test.YtiakkhahohhpaaaDoorAdopt
namespace Go.Proofs.YtiakkhahohhpaaaDoor
open Go Go.RowKit

theorem CIn.other {S F : Nat → Prop} {w w1 : World} {t : Nat} {s : CNet} (h : CIn S w t s) (hc : Chg F w w1) (hF : ∀ b, b < w.heap.size → F b → S b) : CIn S w1 t s := by
  obtain ⟨V, tag, h⟩ := h
  exact ⟨V, tag, Mem.other h hc hF⟩
theorem CIn.adopt {S F : Nat → Prop} {w w1 : World} {t : Nat} {s : CNet} (h : CIn S w t s) (hc : Chg F w w1) (hF : ∀ b, b < w.heap.size → F b → S b) : CIn (Plus S w w1) w1 t s := by
  obtain ⟨V, tag, h⟩ := h
  obtain ⟨tag', h'⟩ := Mem.adopt h hc hF
  exact ⟨V, tag', h'⟩

def ilist (n : Nat) (f : Nat → Int) : List Value := (List.range n).map fun q => .int .i64 (f q)
theorem ilist_set (n : Nat) (f : Nat → Int) {q : Nat} (hq : q < n) (x : Int) : (ilist n f).set q (.int .i64 x) = ilist n (put1 f q x) := by
  unfold ilist
  rw [map_range_set _ _ _ _ hq]
  apply List.map_congr_left
  intro j _
  by_cases e : j = q
  · subst e; rw [if_pos rfl, put1_self]
  · rw [if_neg e, put1_ne _ _ e]
theorem ilist_get (n : Nat) (f : Nat → Int) {q : Nat} (hq : q < n) : (ilist n f)[q]? = some (.int .i64 (f q)) := by simp [ilist, hq]
theorem ilist_zero (n : Nat) : (madeCells (Value.int .i64 0).cells (n * 1)).toList = ilist n fun _ => 0 := by
  rw [zeros_ints]; rfl

/-- Two counts of the law's own, in blocks gM and gL, beside the net. -/
structure FifoW (w0 w : World) (t n : Nat) (s : CNet) (gM gL : Nat) (gv : Value) (many last : Nat → Int) (p : Nat) : Prop where
  ex : ∃ S : Nat → Prop, (∀ b, b < w0.heap.size → S b) ∧ S gM ∧ S gL ∧ CIn S w t s
  chg : Chg (NewB w0) w0 w
  ne : gM ≠ gL
  nM : ¬ gM < w0.heap.size
  nL : ¬ gL < w0.heap.size
  rd : Rd (fun b => b ≠ gM ∧ b ≠ gL) w gv (s.got p)
  rM : w.ownsRow 0 3 1 (.slice (some ⟨gM, 0, none⟩) n n) n (ilist n many)
  rL : w.ownsRow 0 3 1 (.slice (some ⟨gL, 0, none⟩) n n) n (ilist n last)

theorem FifoW.keep {w0 w w1 : World} {t n : Nat} {s : CNet} {gM gL p : Nat} {gv : Value} {many last : Nat → Int} (h : FifoW w0 w t n s gM gL gv many last p) (hc : Chg NoF w w1) : FifoW w0 w1 t n s gM gL gv many last p where
  ex := by
    obtain ⟨S, h1, h2, h3, h4⟩ := h.ex
    exact ⟨S, h1, h2, h3, h4.keep hc⟩
  chg := h.chg.trans hc.ofNo
  ne := h.ne
  nM := h.nM
  nL := h.nL
  rd := h.rd.keep hc fun _ _ h => h
  rM := hc.row h.rM fun _ _ h => h
  rL := hc.row h.rL fun _ _ h => h

theorem FifoW.setM {w0 w : World} {t n : Nat} {s : CNet} {gM gL p : Nat} {gv : Value} {many last : Nat → Int} (h : FifoW w0 w t n s gM gL gv many last p) {q : Nat} (hq : q < n) (x : Int) :
    FifoW w0 (w.setCell ⟨gM, q, none⟩ (.int .i64 x)) t n s gM gL gv (put1 many q x) last p where
  ex := by
    obtain ⟨S, h1, h2, h3, h4⟩ := h.ex
    exact ⟨S, h1, h2, h3, h4.other (setCell_chg w ⟨gM, q, none⟩ _) fun b _ hb => by have hb : b = gM := hb; subst hb; exact h2⟩
  chg := h.chg.setCell (p := ⟨gM, q, none⟩) (.inl h.nM) _
  ne := h.ne
  nM := h.nM
  nL := h.nL
  rd := h.rd.keep (setCell_chg w ⟨gM, q, none⟩ _) fun b hb hf => hb.1 hf
  rM := by have := (h.rM.stored q (.int .i64 x)).1; rw [ilist_set n many hq] at this; exact this
  rL := (setCell_chg w ⟨gM, q, none⟩ (.int .i64 x)).row h.rL fun b hb hf => by
    obtain rfl : gL = b := by simpa [Value.ownBlock] using hb
    exact h.ne hf.symm

theorem FifoW.setL {w0 w : World} {t n : Nat} {s : CNet} {gM gL p : Nat} {gv : Value} {many last : Nat → Int} (h : FifoW w0 w t n s gM gL gv many last p) {q : Nat} (hq : q < n) (x : Int) :
    FifoW w0 (w.setCell ⟨gL, q, none⟩ (.int .i64 x)) t n s gM gL gv many (put1 last q x) p where
  ex := by
    obtain ⟨S, h1, h2, h3, h4⟩ := h.ex
    exact ⟨S, h1, h2, h3, h4.other (setCell_chg w ⟨gL, q, none⟩ _) fun b _ hb => by have hb : b = gL := hb; subst hb; exact h3⟩
  chg := h.chg.setCell (p := ⟨gL, q, none⟩) (.inl h.nL) _
  ne := h.ne
  nM := h.nM
  nL := h.nL
  rd := h.rd.keep (setCell_chg w ⟨gL, q, none⟩ _) fun b hb hf => hb.2 hf
  rM := (setCell_chg w ⟨gL, q, none⟩ (.int .i64 x)).row h.rM fun b hb hf => by
    obtain rfl : gM = b := by simpa [Value.ownBlock] using hb
    exact h.ne hf
  rL := by have := (h.rL.stored q (.int .i64 x)).1; rw [ilist_set n last hq] at this; exact this

theorem FifoW.out {w0 w : World} {t n : Nat} {s : CNet} {gM gL p : Nat} {gv : Value} {many last : Nat → Int} (h : FifoW w0 w t n s gM gL gv many last p) (hs : CInv s s.m) (hn : s.n = n) : CRel w0 w t n s := by
  obtain ⟨S, h1, _, _, h4⟩ := h.ex
  exact ⟨hs, hn, h4.mono h1, h.chg⟩

set_option maxHeartbeats 8000000 in
set_option maxRecDepth 100000 in
theorem fifo_walk (n : Int) (v : Value) (ll : List (List Int)) (w : World) (hg : As.Met w) (hr : Rd2 (fun k => k < w.heap.size) w v ll) (hlb : ll.length ≤ 9223372036854775807) :
    Calls Tryd.prog 5 #[.int .i64 n, v] w fun e w' => e = .returned (.bool true) ∧ Chg (NewB w) w w' := by
  have HR := Lib.hid hr
  have _ := hlb
  have HG := Lib.hid hg
  clear hr hg
  go_enter Tryd.func5, Tryd.ntmps5
  go_wp2_with fail
  refine (castFact_any w HG.out).mono ?_
  rintro e w1 ⟨rfl, hc1⟩
  go_wp2_with fail
  refine (new_any n w1).mono ?_
  rintro e w2 ⟨hc2, hnew⟩
  have HC1 := Lib.hid hc1
  have HC2 := Lib.hid hc2
  clear hc1 hc2
  rcases hnew with ⟨hbad, rfl⟩ | ⟨k, rfl, hk1, hk4, t, rfl, hin⟩
  · have hb : decide (n < 1) = true ∨ (decide (n < 1) = false ∧ decide (4 < n) = true) := by
      rcases Bool.and_eq_false_iff.1 hbad with h | h
      · left; rw [decide_eq_true_eq]; have := of_decide_eq_false h; omega
      · by_cases h1 : n < 1
        · left; rw [decide_eq_true_eq]; exact h1
        · right; rw [decide_eq_true_eq, decide_eq_false_iff_not]; have := of_decide_eq_false h; omega
    rw [show errV 1 = .iface 54 (.int .i64 1) from rfl]
    clear hbad
    rcases hb with hb | ⟨hb1, hb2⟩
    · go_wp2
      go_ret
      exact ⟨rfl, (HC1.out.trans HC2.out).ofNo⟩
    · go_wp2
      go_ret
      exact ⟨rfl, (HC1.out.trans HC2.out).ofNo⟩
  have HREL : Hid (CRel w w2 t k (CNet.init k)) := Lib.hid (CRel.start hk1 hk4 HC1.out HC2.out hin)
  clear hin
  obtain ⟨pv, cv, rfl⟩ := HR.out.val
  obtain ⟨sl, hSL⟩ : ∃ sl, Hid (ll.length = sl) := ⟨_, Lib.hid rfl⟩
  rw [hSL.out] at hlb HR ⊢
  go_wp2_with fail
  go_loopw [8] (fun i wr => ∃ j : Nat, j ≤ sl ∧ j ≤ 150 ∧ i = .int .i64 j ∧ ∃ s, Hid (CRel w wr t k s)) (fun i _ => 150 - (intOf i).toNat)
  case atStart => exact ⟨0, Nat.zero_le _, Nat.zero_le _, rfl, _, HREL⟩
  case round =>
    clear HREL
    obtain ⟨j, hjsl, hj150, rfl, s, HT⟩ := hrel
    by_cases hlt : j < sl ∧ j < 150
    · obtain ⟨hlt1, hlt2⟩ := hlt
      obtain ⟨b, off, c, u, e1, hcell, hrow, hrl⟩ := HR.out.at HT.out.2.2.2 (fun b hb hn => hn hb) (j := j) (by rw [hSL.out]; exact hlt1)
      simp only [Value.slice.injEq] at e1
      obtain ⟨rfl, -, rfl⟩ := e1
      have hj1 : (j : Int) < sl := by omega
      have hj2 : (j : Int) < 150 := by omega
      have HD := Lib.hid (does_any _ _ t s HT.out.2.2.1 HT.out.1 _ _ hrow)
      clear hrow hrl
      go_wp2_with fail
      refine HD.out.mono ?_
      rintro e w1 ⟨rfl, hin, hcc⟩
      have HT2 : Hid (CRel w w1 t k (s.act (ll.getD j []))) := Lib.hid (HT.out.step (HT.out.1.act _) (s.act_n _) hin hcc)
      clear hin hcc HD hcell
      go_wp2
      go_roundw
      case rel => exact ⟨j + 1, by omega, by omega, by go_num, _, HT2⟩
      case measure => simp [intOf]; omega
    · have HREL2 : Hid (CRel w wr t k s) := Lib.hid HT.out
      have hb : ¬ (j : Int) < sl ∨ ((j : Int) < sl ∧ ¬ (j : Int) < 150) := by omega
      clear hlt HT
      have HINV : Hid (CInv s s.m) := Lib.hid HREL2.out.1
      have HN : Hid (s.n = k) := Lib.hid HREL2.out.2.1
      have HM20 : Hid (s.m ≤ 20) := Lib.hid HINV.out.m20
      rcases hb with hb | ⟨hb1, hb2⟩
      all_goals
        go_wp2_with fail
        go_loopw [9, 10, 11, 12, 13, 14, 15, 16] (fun i _ _ _ _ _ _ _ wr => ∃ p : Nat, p ≤ k ∧ i = .int .i64 p ∧ Hid (CRel w wr t k s)) (fun i _ _ _ _ _ _ _ _ => k - (intOf i).toNat)
        case atStart => exact ⟨0, Nat.zero_le _, rfl, HREL2⟩
        case round =>
          clear HREL2
          obtain ⟨p, hpk, rfl, HP⟩ := hrel
          by_cases hp : p < k
          · have hp1 : (p : Int) < k := by omega
            have HPK : Hid (p < k) := Lib.hid hp
            have HGP := Lib.hid (got_any _ _ t s HP.out.2.2.1 HP.out.1 p)
            have e0 : s.gotOf p = s.got p := by
              unfold CNet.gotOf; rw [if_pos ((s.is_iff p).2 ⟨p, rfl, by rw [HN.out]; omega⟩), Int.toNat_natCast]
            rw [e0] at HGP
            have HGL : Hid ((s.got p).length ≤ 20) := Lib.hid (by have := HINV.out.got_le (p := p) (by rw [HN.out]; exact hp); have := HM20.out; omega)
            obtain ⟨gl, HGLE⟩ : ∃ gl, Hid ((s.got p).length = gl) := ⟨_, Lib.hid rfl⟩
            clear e0 hpk hp
            rename_i wr _
            go_wp2_with fail
            refine HGP.out.mono ?_
            rintro e wq ⟨vq, rfl, hown, hc⟩
            obtain ⟨va, vc, rfl⟩ := owns_val hown
            have HOWN := Lib.hid hown
            have HCQ := Lib.hid hc
            rw [HGLE.out] at HGL HOWN ⊢
            clear hown hc HGP
            go_wp2_with (at_make; refine wpList_plain rfl (fun K hK => wp_make (P := Tryd.prog) 29 _ _ rfl 3 (.int .i64 0) 1 8 infoInt Tryd.underlying29 .i64 .i64 k (by rfl) (by rfl) (by omega) (by omega) ?_); first | (have _ := HOM; intro gL w4 hgL ownL hcL hltL; have HGL4 := Lib.hid hgL; clear hgL) | (intro gM w3 hgM ownM hcM hltM; have HGM := Lib.hid hgM; have HOM := Lib.hid ownM; have HCM := Lib.hid hcM; have HLM := Lib.hid hltM; clear hgM ownM hcM hltM); refine hK _ _ ?_; clear hK)
            rw [ilist_zero] at HOM
            rw [ilist_zero] at ownL
            have HF : Hid (FifoW w w4 t k s gM gL (.slice va gl vc) (fun _ => 0) (fun _ => 0) p) := Lib.hid (by
              have hcA : Chg NoF wr w4 := (HCQ.out.trans HCM.out).trans hcL
              have hsz := HP.out.2.2.2.size
              have hq1 := HCQ.out.size
              have hq2 := HCM.out.size
              have eM := HGM.out
              have eL := HGL4.out
              have lM := HLM.out
              have hw0 : ∀ b, b < w.heap.size → Plus (fun b => b < w.heap.size) wr w4 b := fun b hb => .inl hb
              have hOQ := HOWN.out
              refine ⟨⟨Plus (fun b => b < w.heap.size) wr w4, hw0, .inr ⟨by omega, by have := hcL.size; omega⟩, .inr ⟨by omega, hltL⟩, HP.out.2.2.1.adopt hcA (fun _ _ h => h.elim)⟩, HP.out.2.2.2.trans hcA.ofNo, by omega, by omega, by omega, ?_, hcL.row HOM.out (fun _ _ h => h), ownL⟩
              have h1 : Rd (fun b => b < wq.heap.size) wq (.slice va gl vc) (s.got p) := Rd.ofOwns hOQ (fun b hb => (hOQ.lt b hb).2)
              exact ((h1.keep (HCM.out.trans hcL) (fun _ _ h => h)).mono fun b _ hb => ⟨by omega, by omega⟩))
            clear ownL hcL hltL HOM HCM HLM HGM HGL4 HCQ HOWN HP
            go_wp2_with fail
            go_loopw [13] (fun i wr => ∃ q : Nat, q ≤ k ∧ i = .int .i64 q ∧ ∃ last, Hid (FifoW w wr t k s gM gL (.slice va gl vc) (fun _ => 0) last p ∧ ∀ a, a < q → last a = -1)) (fun i _ => k - (intOf i).toNat)
            case atStart => exact ⟨0, Nat.zero_le _, rfl, _, Lib.hid ⟨HF.out, fun a ha => absurd ha (Nat.not_lt_zero _)⟩⟩
            case round =>
              clear HF
              obtain ⟨q, hqk, rfl, last, HQ⟩ := hrel
              by_cases hq : q < k
              · have hq1 : (q : Int) < k := by omega
                have hf := HQ.out.1.rL.frozenAt q
                have hcell : _ = _ := (HQ.out.1.rL.cellAt q (by omega)).trans (ilist_get k last hq)
                rename_i wr _
                have HF2 : Hid (FifoW w (wr.setCell ⟨gL, q, none⟩ (.int .i64 (-1))) t k s gM gL (.slice va gl vc) (fun _ => 0) (put1 last q (-1)) p ∧ ∀ a, a < q + 1 → put1 last q (-1) a = -1) := Lib.hid ⟨HQ.out.1.setL hq _, fun a ha => by
                  by_cases e : a = q
                  · subst e; rw [put1_self]
                  · rw [put1_ne _ _ e]; exact HQ.out.2 a (by omega)⟩
                clear HQ
                go_wp2
                go_roundw
                case rel => exact ⟨q + 1, by omega, by go_num, _, HF2⟩
                case measure => simp [intOf]; omega
              · have hq1 : ¬ (q : Int) < k := by omega
                have HF3 : Hid (∃ many last, FifoW w wr t k s gM gL (.slice va gl vc) many last p ∧ FifoAt s p 0 many last) := Lib.hid ⟨_, _, HQ.out.1, ⟨fun _ _ => by simp [CNet.cntOf], fun a ha => .inl (HQ.out.2 a (by rw [HN.out] at ha; omega))⟩⟩
                clear HQ hq hqk
                go_wp2_with fail
                go_loopw [14, 15, 16] (fun i _ _ wr => ∃ x : Nat, x ≤ gl ∧ i = .int .i64 x ∧ Hid (∃ many last, FifoW w wr t k s gM gL (.slice va gl vc) many last p ∧ FifoAt s p x many last)) (fun i _ _ _ => gl - (intOf i).toNat)
                case atStart => exact ⟨0, Nat.zero_le _, rfl, HF3⟩
                case round =>
                  clear HF3
                  obtain ⟨x, hxg, rfl, HX⟩ := hrel
                  by_cases hx : x < gl
                  · have hx1 : (x : Int) < gl := by omega
                    obtain ⟨many, last, HFW, HFA⟩ : ∃ many last, Hid (FifoW w wr t k s gM gL (.slice va gl vc) many last p) ∧ Hid (FifoAt s p x many last) := by
                      obtain ⟨a, b, h1, h2⟩ := HX.out
                      exact ⟨a, b, Lib.hid h1, Lib.hid h2⟩
                    clear HX hxg
                    obtain ⟨z, ez, hzm, hv, hl, HNX⟩ := HFA.out.at HINV.out (by rw [HN.out]; exact HPK.out) (by rw [HGLE.out]; exact hx)
                    have HNX := Lib.hid HNX
                    have HX2 : Hid (x + 1 ≤ gl) := Lib.hid hx
                    have hby := HINV.out.byl z hzm
                    obtain ⟨bG, off, cG, eG, -, hcell⟩ := HFW.out.rd.form (by rw [HGLE.out]; omega)
                    rw [HGLE.out] at hcell eG
                    have d0 := hcell x hx
                    rw [ez] at d0
                    simp only [Value.slice.injEq] at eG
                    obtain ⟨rfl, -, rfl⟩ := eG
                    have HNT := Lib.hid (fun w1 (h1 : FifoW w w1 t k s gM gL (.slice (some ⟨bG, off, none⟩) gl vc) many last p) => note_any _ w1 t s (h1.out HINV.out HN.out).2.2.1 HINV.out z)
                    have e1 : s.byOf z = s.bys z ∧ s.vecOf z = (List.range s.n).map (s.vec z) := by
                      have : s.isNote z = true := (s.isNote_iff z).2 ⟨z, rfl, hzm⟩
                      unfold CNet.byOf CNet.vecOf
                      rw [if_pos this, if_pos this, Int.toNat_natCast]; exact ⟨rfl, rfl⟩
                    rw [e1.1, e1.2] at HNT
                    obtain ⟨y, HY⟩ : ∃ y, Hid (s.bys z = y) := ⟨_, Lib.hid rfl⟩
                    rw [HY.out] at HNT HNX hv hl hby
                    obtain ⟨my, HMY⟩ : ∃ my, Hid (many y = my) := ⟨_, Lib.hid rfl⟩
                    obtain ⟨ly, HLY⟩ : ∃ ly, Hid (last y = ly) := ⟨_, Lib.hid rfl⟩
                    rw [HN.out] at hby
                    have HMB : Hid (0 ≤ my ∧ my ≤ 20) := Lib.hid (by
                      have h1 := HINV.out.vec0 z y hzm (by rw [HN.out]; exact hby)
                      have h2 := HINV.out.vecM z y hzm (by rw [HN.out]; exact hby)
                      have h3 := HM20.out
                      rw [hv, HMY.out] at h1 h2
                      omega)
                    have HVL : Hid (((List.range s.n).map (s.vec z)).length = k ∧ ((List.range s.n).map (s.vec z)).getD y 0 = my) := Lib.hid (by
                      refine ⟨by simp [HN.out], ?_⟩
                      rw [List.getD, List.getElem?_map, List.getElem?_range (by rw [HN.out]; exact hby)]
                      show s.vec z y = my
                      rw [hv, HMY.out])
                    obtain ⟨vl, HVE⟩ : ∃ vl, Hid ((List.range s.n).map (s.vec z) = vl) := ⟨_, Lib.hid rfl⟩
                    rw [HVE.out] at HNT HVL
                    have HNX2 : Hid (FifoAt s p (x + 1) (put1 many y (my + 1)) (put1 last y z)) := Lib.hid (by rw [← HMY.out]; exact HNX.out)
                    have hly : (decide ((z : Int) ≤ ly)) = false := by rw [decide_eq_false_iff_not, ← HLY.out]; omega
                    have hy1 : (y : Int) < k := by omega
                    have hin : inB (y : Int) 0 ((k : Int) - 1) = true := by simp [inB]; omega
                    have HIN := Lib.hid hin
                    have HWK : Hid (IntKind.i64.wrap ((k : Int) - 1) = (k : Int) - 1) := Lib.hid (IntWalk.i64_in _ (by omega))
                    clear hcell ez hv hl hzm e1 HNX HFA hin hx
                    go_wp2_with fail
                    refine (HNT.out _ HFW.out).mono ?_
                    rintro e wn ⟨vn, rfl, hown, hcn⟩
                    have HF4 := Lib.hid (HFW.out.keep hcn)
                    have dG := hcn.cell_some d0 (fun h => h)
                    obtain ⟨an, cn, hvn⟩ := owns_val hown
                    have hrv := Rd.ofOwns (S := fun _ => True) hown (fun _ _ => trivial)
                    rw [hvn] at hrv ⊢
                    obtain ⟨bn, on, cn', en, -, hcn2⟩ := hrv.form (by rw [HVL.out.1]; omega)
                    simp only [Value.slice.injEq] at en
                    obtain ⟨rfl, -, rfl⟩ := en
                    rw [HVL.out.1] at hcn2 ⊢
                    have dV := hcn2 y hby
                    rw [HVL.out.2] at dV
                    have rM := (HF4.out.rM.cellAt y (by omega)).trans (ilist_get k many hby)
                    have rL := (HF4.out.rL.cellAt y (by omega)).trans (ilist_get k last hby)
                    rw [HMY.out] at rM
                    rw [HLY.out] at rL
                    clear hown hcn hvn hrv hcn2 HNT HFW d0
                    have hzz : ((k : Int) != k) = false := by simp
                    have hmm : (my != my) = false := by simp
                    go_wp2_with fail
                    refine wp_region_plan (Chg NoF wn) 33 [(0,true),(1,true),(2,true),(3,false),(4,true),(5,true),(6,true),(7,true),(8,true),(9,true),(10,true),(11,true),(12,true),(13,true),(14,true),(15,true),(16,true),(17,true),(18,true),(19,true),(20,true),(21,true),(22,true),(23,true),(24,true),(25,true),(26,true),(27,true),(28,true),(29,true),(30,true),(31,true),(32,true)] mixed (by kernel_rfl) (Chg.refl _ _).drew ?_
                    simp only [planOps, List.map_cons, List.map_nil, List.getElem?_cons_zero, List.getElem?_cons_succ, Option.getD_some]
                    generalize hops : List.toArray _ = ops
                    iterate 3 (refine wpPlan_quiet (v := ?_) rfl (fun _ _ _ h => h) (by intro w1 hS; clear hS; go_simp; with_reducible rfl) ?_; (simp only [Act.put, List.setIfInBounds_toArray, List.set_cons_zero, List.set_cons_succ]))
                    refine wpPlan_loud rfl (fun K hK => ?_)
                    go_simp
                    refine (lawIn_any _ _ _ _).mono ?_
                    rintro e w9 ⟨rfl, rfl⟩
                    rw [HWK.out, HIN.out]
                    refine hK _ _ (fun _ => (Chg.refl NoF wn).drew) ?_
                    clear hK K
                    (try simp only [Act.put, List.setIfInBounds_toArray, List.set_cons_zero, List.set_cons_succ])
                    iterate 2 (refine wpPlan_quiet (v := ?_) rfl (fun _ _ _ h => h) (by intro w1 hS; clear hS; go_simp; with_reducible rfl) ?_; (simp only [Act.put, List.setIfInBounds_toArray, List.set_cons_zero, List.set_cons_succ]))
                    iterate 4 (refine wpPlan_quietG (v := ?_) (by rw [← hops]; rfl) (fun _ _ _ h => h) (by intro w1 hS; clear hS; go_simp; with_reducible rfl) ?_; (simp only [Act.put, List.setIfInBounds_toArray, List.set_cons_zero, List.set_cons_succ]))
                    iterate 2 (refine wpPlan_quiet (v := ?_) rfl (fun _ _ _ h => h) (by intro w1 hS; clear hS; go_simp; with_reducible rfl) ?_; (simp only [Act.put, List.setIfInBounds_toArray, List.set_cons_zero, List.set_cons_succ]))
                    iterate 9 (refine wpPlan_quietG (v := ?_) (by rw [← hops]; rfl) (fun _ _ _ h => h) (by intro w1 hS; have s0 := hS.cell_some dV (fun h => h); have s1 := hS.cell_some rM (fun h => h); clear hS; go_simp; with_reducible rfl) ?_; (simp only [Act.put, List.setIfInBounds_toArray, List.set_cons_zero, List.set_cons_succ]))
                    iterate 2 (refine wpPlan_quiet (v := ?_) rfl (fun _ _ _ h => h) (by intro w1 hS; clear hS; go_simp; with_reducible rfl) ?_; (simp only [Act.put, List.setIfInBounds_toArray, List.set_cons_zero, List.set_cons_succ]))
                    iterate 9 (refine wpPlan_quietG (v := ?_) (by rw [← hops]; rfl) (fun _ _ _ h => h) (by intro w1 hS; have s0 := hS.cell_some dG (fun h => h); have s1 := hS.cell_some rL (fun h => h); clear hS; go_simp; with_reducible rfl) ?_; (simp only [Act.put, List.setIfInBounds_toArray, List.set_cons_zero, List.set_cons_succ]))
                    (refine wpPlan_quiet (v := ?_) rfl (fun _ _ _ h => h) (by intro w1 hS; clear hS; go_simp; with_reducible rfl) ?_; (simp only [Act.put, List.setIfInBounds_toArray, List.set_cons_zero, List.set_cons_succ]))
                    clear hops
                    refine wpPlan_nil ?_
                    have fM := HF4.out.rM.frozenAt y
                    have HF5 : Hid (FifoW w wn.drew t k s gM gL (.slice (some ⟨bG, off, none⟩) gl vc) many last p) := Lib.hid (HF4.out.keep ((Chg.refl NoF wn).drew))
                    clear dV rL HF4 fM
                    have dG : wn.drew.cell? ⟨bG, off + x, none⟩ = some (.int .i64 z) := dG
                    have rM : wn.drew.cell? ⟨gM, y, none⟩ = some (.int .i64 my) := rM
                    generalize wn.drew = w5 at *
                    have fM := HF5.out.rM.frozenAt y
                    have hw2 : wrap64 (my + 1) = my + 1 := IntWalk.wrap64_in _ (by have := HMB.out; omega)
                    have hneG : bG ≠ gM := by
                      obtain ⟨b', off', c', e', hb', -⟩ := HF5.out.rd.form (by rw [HGLE.out]; omega)
                      simp only [Value.slice.injEq, Option.some.injEq, Addr.mk.injEq] at e'
                      obtain ⟨⟨rfl, -, -⟩, -, -⟩ := e'
                      exact hb'.1
                    have HF6 := Lib.hid (HF5.out.setM hby (my + 1))
                    have dG2 : (w5.setCell ⟨gM, y, none⟩ (.int .i64 (my + 1))).cell? ⟨bG, off + x, none⟩ = some (.int .i64 z) := (setCell_chg w5 ⟨gM, y, none⟩ _).cell_some dG (fun h => hneG h)
                    have HF7 := Lib.hid (HF6.out.setL hby z)
                    have fL := HF6.out.rL.frozenAt y
                    have rL := (HF6.out.rL.cellAt y (by omega)).trans (ilist_get k last hby)
                    have hx20 : (x : Int) + 1 ≤ 20 := by have := HX2.out; have := HGL.out; omega
                    clear HF5 HF6
                    go_wp2
                    go_roundw
                    case rel => have h1 := HX2.out; have h2 := HGL.out; exact ⟨x + 1, h1, by go_num, Lib.hid ⟨_, _, HF7.out, HNX2.out⟩⟩
                    case measure => have h1 := HX2.out; have h2 := HGL.out; simp [intOf]; omega
                  · have hx1 : ¬ (x : Int) < gl := by omega
                    have HP2 : Hid (CRel w wr t k s) := Lib.hid (by
                      obtain ⟨_, _, h1, _⟩ := HX.out
                      exact h1.out HINV.out HN.out)
                    clear HX hx hxg
                    go_wp2
                    go_roundw
                    case rel => exact ⟨p + 1, HPK.out, by go_num, HP2⟩
                    case measure => have := HPK.out; simp [intOf]; omega
          · have hp1 : ¬ (p : Int) < k := by omega
            have HEND : Hid (Chg (NewB w) w wr) := Lib.hid HP.out.2.2.2
            clear HP hp hpk
            go_wp2
            go_ret
            exact ⟨rfl, HEND.out⟩

end Go.Proofs.YtiakkhahohhpaaaDoor
