/-
  The net of work and thanks: what the laws do to it.
  Conditions: a net as New made it, behind any deeds.
-/
import Derived.Test.YtbckjmbhipofaaaCaF
import Derived.Test.YtbckjmbhipofaaaIntss
namespace Go.Proofs.Ytbckjmbhipofaaa
open Go Go.RowKit

theorem cnt_len {l : List Int} (h : ∀ m ∈ l, m = 1 ∨ m = 2) : (l.length : Int) = cnt 1 l + cnt 2 l := by
  induction l with
  | nil => rfl
  | cons x l ih =>
    rw [cnt_cons, cnt_cons, List.length_cons]
    have := ih (fun m hm => h m (List.mem_cons_of_mem _ hm))
    rcases h x (List.mem_cons_self) with rfl | rfl
    · simp; omega
    · simp; omega

theorem CBnd.sane {s : CNet} (h : CBnd s) : Sane s := by
  have hi := h.inv
  have hp := h.psiLe
  have hs := hi.sent20
  have hW : ∀ p q, p < s.n → q < s.n → cnt 1 (s.ways p q) ≤ sumW s := fun p q hp hq => sum2_ge (f := fun p q => cnt 1 (s.ways p q)) (fun _ _ _ _ => cnt_nonneg _ _) hp hq
  have hT : ∀ p q, p < s.n → q < s.n → cnt 2 (s.ways p q) ≤ sumT s := fun p q hp hq => sum2_ge (f := fun p q => cnt 2 (s.ways p q)) (fun _ _ _ _ => cnt_nonneg _ _) hp hq
  have hW0 : 0 ≤ sumW s := sum2_nonneg fun _ _ _ _ => cnt_nonneg _ _
  have hT0 : 0 ≤ sumT s := sum2_nonneg fun _ _ _ _ => cnt_nonneg _ _
  have hE0 : 0 ≤ nEng s := sum_nonneg fun _ _ => by unfold eng1; split <;> omega
  unfold psi at hp
  refine ⟨hi.n1, fun p hp => (hi.par p hp).2, fun p q hp' hq => ?_, fun p hp' => ?_, ⟨by have := hi.sent0; omega, by omega⟩⟩
  · have := cnt_len (hi.msg p q)
    have h1 := hW p q hp' hq
    have h2 := hT p q hp' hq
    omega
  · rw [hi.owe p hp']
    have h0 := dues_nonneg s p
    have h1 := sum_le (n := s.n) (f := fun q => cnt 1 (s.ways p q)) (g := fun _ => 40) (fun q hq => by have := hW p q hp' hq; omega)
    have h2 := sum_le (n := s.n) (f := fun q => cnt 2 (s.ways q p)) (g := fun _ => 40) (fun q hq => by have := hT q p hq hp'; omega)
    have h3 := sum_le (n := s.n) (f := fun q => ch s q p) (g := fun _ => 1) (fun q hq => by unfold ch; split <;> omega)
    rw [sum_const] at h1 h2 h3
    have h5 := hi.n5
    unfold dues at h0 ⊢
    omega

theorem CIn.mono {S S' : Nat → Prop} {w : World} {t g : Nat} {s : CNet} (h : CIn S w t g s) (hS : ∀ b, S' b → S b) : CIn S' w t g s := by
  obtain ⟨V, tag, hg, h⟩ := h
  exact ⟨V, tag, hg, ⟨fun b hb => h.hS b (hS b hb), h.ht, h.blk, h.row, h.tg⟩⟩

/-- What is known of a net while a law goes on: w is the world of the call's start. -/
def CRel (w wr : World) (t g n : Nat) (s : CNet) : Prop := CBnd s ∧ s.n = n ∧ CIn (fun b => b < w.heap.size) wr t g s ∧ Chg (NewB w) w wr

def CNet.act (s : CNet) (l : List Int) : CNet :=
  if l.length = 2 then s.give (l.getD 0 0) (l.getD 1 0) else if l.length = 1 then s.stop (l.getD 0 0) else if l.length = 3 then s.step (l.getD 0 0) (l.getD 1 0) else s

theorem CRel.give {w wr wr' : World} {t g n : Nat} {s : CNet} (h : CRel w wr t g n s) (p q : Int) (hin : CIn (fun b => b < w.heap.size) wr' t g (s.give p q)) (hc : Chg (NewB w) wr wr') : CRel w wr' t g n (s.give p q) :=
  ⟨(h.1.give p q).1, (h.1.give p q).2.1.trans h.2.1, hin, h.2.2.2.trans hc⟩
theorem CRel.stop {w wr wr' : World} {t g n : Nat} {s : CNet} (h : CRel w wr t g n s) (p : Int) (hin : CIn (fun b => b < w.heap.size) wr' t g (s.stop p)) (hc : Chg (NewB w) wr wr') : CRel w wr' t g n (s.stop p) :=
  ⟨(h.1.stop p).1, (h.1.stop p).2.1.trans h.2.1, hin, h.2.2.2.trans hc⟩
theorem CRel.step {w wr wr' : World} {t g n : Nat} {s : CNet} (h : CRel w wr t g n s) (p q : Int) (hin : CIn (fun b => b < w.heap.size) wr' t g (s.step p q)) (hc : Chg (NewB w) wr wr') : CRel w wr' t g n (s.step p q) :=
  ⟨(h.1.step p q).1, (h.1.step p q).2.1.trans h.2.1, hin, h.2.2.2.trans hc⟩

set_option maxHeartbeats 4000000 in
set_option maxRecDepth 100000 in
theorem calmFact_any (w : World) : Calls Try.prog 6 #[] w fun e w' => e = .returned (.bool true) ∧ Chg NoF w w' := by
  go_enter Try.func6, Try.ntmps6
  go_wp2_with fail
  refine (new_any 2 w).mono ?_
  rintro e w1 ⟨hc1, h⟩
  rcases h with ⟨h, _⟩ | ⟨k, hk, _, _, t, g, rfl, hin⟩
  · exact absurd h (by decide)
  obtain rfl : k = 2 := by omega
  clear hk
  have b0 := CBnd.start (n := 2) (by decide) (by decide)
  have HC1 := Lib.hid (hc1.ofNo (F := NewB w))
  have HG := Lib.hid (give_any _ w1 t g _ hin b0.sane 0 1)
  rw [show (CNet.init 2).giveErr 0 1 = 0 by decide] at HG
  have HB1 := Lib.hid (b0.give 0 1).1
  clear hc1 hin b0
  go_wp2_with fail
  refine HG.out.mono ?_
  rintro e w2 ⟨rfl, hin, hc⟩
  rw [show errV 0 = .nilIface from rfl]
  have HC2 := Lib.hid (HC1.out.trans hc)
  have HS := Lib.hid (stop_any _ w2 t g _ hin HB1.out.sane 0)
  rw [show ((CNet.init 2).give 0 1).stopErr 0 = 0 by decide] at HS
  have HB2 := Lib.hid (HB1.out.stop 0).1
  clear hin hc HG HC1 HB1
  go_wp2_with fail
  refine HS.out.mono ?_
  rintro e w3 ⟨rfl, hin, hc⟩
  rw [show errV 0 = .nilIface from rfl]
  have HC3 := Lib.hid (HC2.out.trans hc)
  have HM := Lib.hid (calm_any _ w3 t g _ hin)
  rw [show (((CNet.init 2).give 0 1).stop 0).calm = false by decide] at HM
  have HT := Lib.hid (step_any _ w3 t g _ hin HB2.out.sane 0 1)
  rw [show (((CNet.init 2).give 0 1).stop 0).stepErr 0 1 = 0 by decide] at HT
  have HB3 := Lib.hid (HB2.out.step 0 1).1
  clear hin hc HS HC2 HB2
  go_wp2_with fail
  refine HM.out.mono ?_
  rintro e w4 ⟨rfl, rfl⟩
  go_wp2_with fail
  refine HT.out.mono ?_
  rintro e w4 ⟨rfl, hin, hc⟩
  rw [show errV 0 = .nilIface from rfl]
  have HC4 := Lib.hid (HC3.out.trans hc)
  have HW := Lib.hid (works_any _ w4 t g _ hin (by decide) (by decide))
  rw [show wbits ((((CNet.init 2).give 0 1).stop 0).step 0 1).works ((((CNet.init 2).give 0 1).stop 0).step 0 1).n = 2 by decide] at HW
  have HIN := Lib.hid hin
  clear hin hc HM HT HC3
  go_wp2_with fail
  refine HW.out.mono ?_
  rintro e w5 ⟨rfl, hc⟩
  have HC5 := Lib.hid (HC4.out.trans hc.ofNo)
  have HS := Lib.hid (stop_any _ w5 t g _ (HIN.out.keep hc) HB3.out.sane 1)
  rw [show ((((CNet.init 2).give 0 1).stop 0).step 0 1).stopErr 1 = 0 by decide] at HS
  have HB4 := Lib.hid (HB3.out.stop 1).1
  clear hc HIN HW HC4 HB3
  go_wp2_with fail
  refine HS.out.mono ?_
  rintro e w6 ⟨rfl, hin, hc⟩
  rw [show errV 0 = .nilIface from rfl]
  have HC6 := Lib.hid (HC5.out.trans hc)
  have HT := Lib.hid (step_any _ w6 t g _ hin HB4.out.sane 1 0)
  rw [show (((((CNet.init 2).give 0 1).stop 0).step 0 1).stop 1).stepErr 1 0 = 0 by decide] at HT
  clear hin hc HS HC5 HB4
  go_wp2_with fail
  refine HT.out.mono ?_
  rintro e w7 ⟨rfl, hin, hc⟩
  rw [show errV 0 = .nilIface from rfl]
  have HC7 := Lib.hid (HC6.out.trans hc)
  have HM := Lib.hid (calm_any _ w7 t g _ hin)
  rw [show ((((((CNet.init 2).give 0 1).stop 0).step 0 1).stop 1).step 1 0).calm = true by decide] at HM
  clear hin hc HT HC6
  go_wp2_with fail
  refine HM.out.mono ?_
  rintro e w8 ⟨rfl, rfl⟩
  go_wp2
  go_ret
  exact ⟨rfl, HC7.out.os, HC7.out.tape, HC7.out.output, HC7.out.size, fun k hk _ => HC7.out.block k hk (fun hn => hn hk)⟩

end Go.Proofs.Ytbckjmbhipofaaa
