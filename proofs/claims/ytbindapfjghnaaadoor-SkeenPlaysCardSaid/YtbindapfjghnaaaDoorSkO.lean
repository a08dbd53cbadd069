/-
  The document's answers about the net of one order: is there such a node and note, a note sent, a note heard.
  Conditions: the answer's lists are read, and tell the program's net.
-/
import Derived.Test.YtbindapfjghnaaaDoorSkN
import Derived.Test.YtbindapfjghnaaaDoorSkG
import Derived.Test.YtbindapfjghnaaaDoorRef2
import Derived.Deep.DeepCutAuto
namespace Go.Proofs.YtbindapfjghnaaaDoor
open Go Go.RowKit

theorem aggSkeen : AggT Tryd.prog 31 4 := AggT.mk' (fun w => by kernel_rfl) Tryd.underlying31 rfl (by kernel_rfl)

theorem sf_opn {S : Nat → Prop} {w : World} {us : List Value} {s : SNet} (h : RdS S w us (sf s)) : ∃ (ka : Option Addr) (kc : Nat) (ta : Option Addr) (tc : Nat) (fa : Option Addr) (fc : Nat) (ga : Option Addr) (gc : Nat), us = [.slice ka s.n kc, .slice ta s.m tc, .slice fa s.m fc, .slice ga s.n gc] := by
  obtain ⟨v0, us, rfl, h0, h⟩ := h.cons_inv
  obtain ⟨v1, us, rfl, h1, h⟩ := h.cons_inv
  obtain ⟨v2, us, rfl, h2, h⟩ := h.cons_inv
  obtain ⟨v3, us, rfl, h3, h⟩ := h.cons_inv
  obtain rfl := h.nil_inv
  obtain ⟨ka, kc, rfl⟩ := Rd.val h0
  obtain ⟨ta, tc, rfl⟩ := Rd2.val h1
  obtain ⟨fa, fc, rfl⟩ := Rd.val h2
  obtain ⟨ga, gc, rfl⟩ := Rd2.val h3
  rw [line_len, s.tL_len, s.fL_len, s.gL_len]
  exact ⟨_, _, _, _, _, _, _, _, rfl⟩

theorem Rd.relen {S : Nat → Prop} {w : World} {a : Option Addr} {n n' c : Nat} {l : List Int} (h : Rd S w (.slice a n c) l) (e : n = n') : Rd S w (.slice a n' c) l := by subst e; exact h
theorem sendErr_ne {s : SNet} {x : Int} (he : s.sendErr = x) (hx : x ≠ 0) : s.m = 20 := by
  unfold SNet.sendErr at he
  split at he
  · assumption
  · omega

def SAns (S : Nat → Prop) (w : World) (s' : SNet) (val err : Int) (e : Ending) (w' : World) : Prop := ∃ v, e = .returned (.tuple #[v, .int .i64 val, .int .i64 err]) ∧ AnsF S w (sf s') v w'

set_option maxHeartbeats 4000000 in
set_option maxRecDepth 100000 in
theorem there_ref (S : Nat → Prop) (w : World) (us : List Value) (s : SNet) (h : RdS S w us (sf s)) (hn : s.n ≤ 4) (hm : s.m ≤ 20) (p k : Int) :
    Calls Tryd.prog 20 #[.agg us.toArray, .int .i64 p, .int .i64 k] w fun e w' => e = .returned (.bool (s.is p k)) ∧ Chg NoF w w' := by
  obtain ⟨ka, kc, ta, tc, fa, fc, ga, gc, rfl⟩ := sf_opn h
  obtain ⟨b1, HI1⟩ : ∃ b1, Hid (inB p 0 ((s.n : Int) - 1) = b1) := ⟨_, Lib.hid rfl⟩
  obtain ⟨b2, HI2⟩ : ∃ b2, Hid (inB k 0 ((s.m : Int) - 1) = b2) := ⟨_, Lib.hid rfl⟩
  have HIS : Hid (s.is p k = (b1 && b2)) := Lib.hid (by rw [← HI1.out, ← HI2.out]; rfl)
  rw [HIS.out]
  obtain ⟨n, HN⟩ : ∃ n, Hid (s.n = n) := ⟨_, Lib.hid rfl⟩
  obtain ⟨m, HM⟩ : ∃ m, Hid (s.m = m) := ⟨_, Lib.hid rfl⟩
  rw [HN.out] at HI1 ⊢
  rw [HM.out] at HI2 ⊢
  have HNB : Hid (n ≤ 9223372036854775807 ∧ m ≤ 9223372036854775807) := Lib.hid (by rw [← HN.out, ← HM.out]; omega)
  have hwn : wrap64 ((n : Int) - 1) = (n : Int) - 1 := IntWalk.wrap64_in _ (by have := HNB.out.1; omega)
  have hwm : wrap64 ((m : Int) - 1) = (m : Int) - 1 := IntWalk.wrap64_in _ (by have := HNB.out.2; omega)
  clear h hn hm
  cases b1 with
  | false =>
    go_enter Tryd.func20, Tryd.ntmps20
    go_upto_region 1 with fail
    have HC : Hid (Chg NoF w (w.alloc (.cells #[.slice ka n kc, .slice ta m tc, .slice fa m fc, .slice ga n gc] 31))) := Lib.hid ((Chg.refl NoF w).alloc _)
    have q0 : (w.alloc (.cells #[.slice ka n kc, .slice ta m tc, .slice fa m fc, .slice ga n gc] 31)).cell? ⟨w.heap.size, 0, none⟩ = some (.slice ka n kc) := (Blk.alloc w [.slice ka n kc, .slice ta m tc, .slice fa m fc, .slice ga n gc] 31).cell 0
    generalize w.alloc _ = w2 at *
    go_wp2_with fail
    refine (ref6In_any _ _ _ _).mono ?_
    rintro e w3 ⟨rfl, rfl⟩
    rw [HI1.out]
    go_wp2
    go_ret
    exact ⟨rfl, HC.out⟩
  | true =>
    go_enter Tryd.func20, Tryd.ntmps20
    go_upto_region 1 with fail
    have HC : Hid (Chg NoF w (w.alloc (.cells #[.slice ka n kc, .slice ta m tc, .slice fa m fc, .slice ga n gc] 31))) := Lib.hid ((Chg.refl NoF w).alloc _)
    have q0 : (w.alloc (.cells #[.slice ka n kc, .slice ta m tc, .slice fa m fc, .slice ga n gc] 31)).cell? ⟨w.heap.size, 0, none⟩ = some (.slice ka n kc) := (Blk.alloc w [.slice ka n kc, .slice ta m tc, .slice fa m fc, .slice ga n gc] 31).cell 0
    have q1 : (w.alloc (.cells #[.slice ka n kc, .slice ta m tc, .slice fa m fc, .slice ga n gc] 31)).cell? ⟨w.heap.size, 1, none⟩ = some (.slice ta m tc) := (Blk.alloc w [.slice ka n kc, .slice ta m tc, .slice fa m fc, .slice ga n gc] 31).cell 1
    generalize w.alloc _ = w2 at *
    go_wp2_with fail
    refine (ref6In_any _ _ _ _).mono ?_
    rintro e w3 ⟨rfl, rfl⟩
    rw [HI1.out]
    go_wp2_with fail
    refine (ref6In_any _ _ _ _).mono ?_
    rintro e w3 ⟨rfl, rfl⟩
    rw [HI2.out]
    go_wp2
    go_ret
    exact ⟨rfl, HC.out⟩

set_option maxHeartbeats 8000000 in
set_option maxRecDepth 100000 in
theorem send_ref (S : Nat → Prop) (w : World) (us : List Value) (s : SNet) (h : RdS S w us (sf s)) (hs : SInv s) :
    Calls Tryd.prog 7 #[.agg us.toArray] w (SAns S w s.send s.sendVal s.sendErr) := by
  obtain ⟨ka, kc, ta, tc, fa, fc, ga, gc, rfl⟩ := sf_opn h
  have HU := Lib.hid h
  have HS := Lib.hid hs
  obtain ⟨n, HN⟩ : ∃ n, Hid (s.n = n) := ⟨_, Lib.hid rfl⟩
  obtain ⟨m, HM⟩ : ∃ m, Hid (s.m = m) := ⟨_, Lib.hid rfl⟩
  have H4 : Hid (1 ≤ n ∧ n ≤ 4) := Lib.hid (by rw [← HN.out]; exact ⟨hs.n1, hs.n4⟩)
  have H20 : Hid (m ≤ 20) := Lib.hid (by rw [← HM.out]; exact hs.m20)
  rw [HM.out, HN.out] at HU ⊢
  clear h hs
  have BAD : Hid (∀ x (w' : World), s.sendErr = x → x ≠ 0 → Bx S w w' w.heap.size (w.heap.size + 1) [.slice ka n kc, .slice ta m tc, .slice fa m fc, .slice ga n gc] [.slice ka n kc, .slice ta m tc, .slice fa m fc, .slice ga n gc] (sf s) → SAns S w (s.send) (s.sendVal) (s.sendErr) (.returned (.tuple #[.agg #[.slice ka n kc, .slice ta m tc, .slice fa m fc, .slice ga n gc], .int .i64 0, .int .i64 x])) w') := Lib.hid fun x w' he hx hR => by
    have h1 : s.send = s := by unfold SNet.send; rw [if_pos (sendErr_ne he hx)]
    have h2 : s.sendVal = 0 := by unfold SNet.sendVal; rw [if_pos (sendErr_ne he hx)]
    rw [h1, h2, he]
    exact ⟨_, rfl, hR.ans⟩
  by_cases h20 : m = 20
  · have HE : Hid (s.sendErr = 4) := Lib.hid (by unfold SNet.sendErr; rw [if_pos (by rw [HM.out]; exact h20)])
    have hm1 : (20 : Int) ≤ m := by omega
    clear h20
    go_enter Tryd.func7, Tryd.ntmps7
    go_upto_region 1 with fail
    have HB := Lib.hid (Bx.start w [.slice ka n kc, .slice ta m tc, .slice fa m fc, .slice ga n gc] [.slice none 0 0, .slice none 0 0, .slice none 0 0, .slice none 0 0] (sf s) HU.out 31 31)
    generalize ((w.alloc _).alloc _) = w2 at *
    have q1 : w2.cell? ⟨w.heap.size, 1, none⟩ = some (.slice ta m tc) := HB.out.ref.bB.cell 1
    go_wp2_with (first | (refine wpList_plain rfl (fun K hK => wp_loadT aggSkeen _ rfl w.heap.size [.slice ka n kc, .slice ta m tc, .slice fa m fc, .slice ga n gc] (by rfl) HB.out.ref.bB rfl ?_); refine hK _ _ ?_; clear hK) | (refine wpList_plain rfl (fun K hK => wp_storeT aggSkeen _ _ rfl (w.heap.size + 1) [.slice ka n kc, .slice ta m tc, .slice fa m fc, .slice ga n gc] _ (by rfl) (by rfl) rfl HB.out.ref.bR rfl rfl ?_); intro wz hBz hcz; have HB3 := Lib.hid (HB.out.setR hBz hcz); clear hBz hcz; refine hK _ _ ?_; clear hK))
    (try simp only [Exit.inBlock, Exit.then]); refine bodyPost_ret (results_cell3 aggSkeen rfl _ _ _ _ (by rfl) HB3.out.ref.bR rfl) rfl ?_
    exact BAD.out 4 _ HE.out (by omega) HB3.out
  have HE : Hid (s.sendErr = 0) := Lib.hid (by unfold SNet.sendErr; rw [if_neg (by rw [HM.out]; exact h20)])
  have HDO : Hid (s.send = s.send0 ∧ s.sendVal = m) := Lib.hid (by unfold SNet.send SNet.sendVal; rw [if_neg (by rw [HM.out]; exact h20), if_neg (by rw [HM.out]; exact h20), HM.out]; exact ⟨rfl, rfl⟩)
  have hm1 : ¬ (20 : Int) ≤ m := by have := H20.out; omega
  have hm2 : m < 20 := by have := H20.out; omega
  have hn4 : n ≤ 4 := H4.out.2
  clear h20
  have HSF : Hid ([Fd.l (line s.n s.clk), .r (s.tL ++ [line n fun _ => 0]), .l (s.fL ++ [0]), .r s.gL] = sf s.send0) := Lib.hid (by unfold sf; rw [send_tL, send_fL, ← HN.out]; rfl)
  go_enter Tryd.func7, Tryd.ntmps7
  go_upto_region 1 with fail
  have HSZ : Hid (((w.alloc (.cells #[.slice ka n kc, .slice ta m tc, .slice fa m fc, .slice ga n gc] 31)).alloc (.cells #[.slice none 0 0, .slice none 0 0, .slice none 0 0, .slice none 0 0] 31)).heap.size = w.heap.size + 2) := Lib.hid (by simp)
  have HB := Lib.hid (Bx.start w [.slice ka n kc, .slice ta m tc, .slice fa m fc, .slice ga n gc] [.slice none 0 0, .slice none 0 0, .slice none 0 0, .slice none 0 0] (sf s) HU.out 31 31)
  generalize ((w.alloc _).alloc _) = w2 at *
  have q1 : w2.cell? ⟨w.heap.size, 1, none⟩ = some (.slice ta m tc) := HB.out.ref.bB.cell 1
  have HH2 : Hid (Rd2 (In S w w.heap.size (w.heap.size + 1)) w2 (.slice ta m tc) s.tL) := Lib.hid (HB.out.at (f := .r s.tL) 1 rfl rfl)
  have HHL : Hid (s.tL.length ≤ 1000) := Lib.hid (by rw [s.tL_len, HM.out]; omega)
  go_wp2_with (first | (at_builtin; refine wpList_appRd2 (S := (In S w w.heap.size (w.heap.size + 1))) rfl _ _ rfl (by rfl) _ s.tL HH2.out (by rfl) HHL.out ?_; intro vn w3 hown3 hc3; obtain ⟨aH, cH, hvn⟩ := hown3.val; rw [s.tL_len, HM.out] at hvn; subst hvn; have HO3 := Lib.hid hown3; have HC3 := Lib.hid hc3; have HB3 := Lib.hid (HB.out.no hc3); have q0 : w3.cell? ⟨w.heap.size, 0, none⟩ = some (.slice ka n kc) := HB3.out.ref.bB.cell 0; clear hown3 hc3 q1) | (at_make; refine wpList_plain rfl (fun K hK => wp_make (P := Tryd.prog) 29 _ _ rfl 3 (.int .i64 0) 1 8 infoInt Tryd.underlying29 .i64 .i64 n (by rfl) (by rfl) (by omega) (by omega) ?_); intro gM w4 hg4 own4 hc4 hlt4; refine hK _ _ ?_; clear hK; have HG4 := Lib.hid hg4; have HOW4 := Lib.hid own4; have HC4 := Lib.hid hc4; clear hg4 own4 hc4 hlt4; rw [zeros_ints] at HOW4; have HSIZ : Hid (w2.heap.size = w.heap.size + 2 ∧ w2.heap.size ≤ w3.heap.size ∧ w3.heap.size ≤ w4.heap.size ∧ gM = w3.heap.size ∧ gM < w4.heap.size) := Lib.hid ⟨HSZ.out, HC3.out.size, HC4.out.size, HG4.out, by have := (HOW4.out.lt gM rfl).2; exact this⟩; have HRR : Hid (Rd (fun b => w3.heap.size ≤ b ∧ b < w4.heap.size) w4 (.slice (some ⟨gM, 0, none⟩) n n) (line n fun _ => 0)) := Lib.hid (Rd.ofOwns (e := 3) (base := 0) (n := n) (by have e : (line n fun _ => (0 : Int)).map (Value.int .i64) = (List.range n).map fun _ => Value.int .i64 0 := (by unfold line; rw [List.map_map]; rfl); rw [e]; exact HOW4.out) (fun b hb => by obtain rfl : gM = b := (by simpa [Value.ownBlock] using hb); have := HSIZ.out; omega)); have HBU : Hid (Blk (w4.alloc (.cells #[.slice (some ⟨gM, 0, none⟩) n n] 29)) w4.heap.size [.slice (some ⟨gM, 0, none⟩) n n]) := Lib.hid (Blk.alloc w4 [.slice (some ⟨gM, 0, none⟩) n n] 29); have HLN : Hid ((line n fun _ => (0 : Int)).length ≤ 9223372036854775807) := Lib.hid (by rw [line_len]; omega); have HO4 : Hid (OwnRows (fun b => ((In S w w.heap.size (w.heap.size + 1)) b ∧ b < w2.heap.size) ∨ w3.heap.size ≤ b) (w4.alloc (.cells #[.slice (some ⟨gM, 0, none⟩) n n] 29)) w2.heap.size (.slice aH m cH) s.tL) := Lib.hid (((HO3.out.mono (S' := fun b => ((In S w w.heap.size (w.heap.size + 1)) b ∧ b < w2.heap.size) ∨ w3.heap.size ≤ b) (fun b _ hb => Or.inl hb)).keep HC4.out).keep ((Chg.refl NoF w4).alloc (.cells #[.slice (some ⟨gM, 0, none⟩) n n] 29))); have HRR2 : Hid (Rd (fun b => ((In S w w.heap.size (w.heap.size + 1)) b ∧ b < w2.heap.size) ∨ w3.heap.size ≤ b) (w4.alloc (.cells #[.slice (some ⟨gM, 0, none⟩) n n] 29)) (.slice (some ⟨gM, 0, none⟩) n n) (line n fun _ => 0)) := Lib.hid ((HRR.out.keep ((Chg.refl NoF w4).alloc (.cells #[.slice (some ⟨gM, 0, none⟩) n n] 29)) (fun _ _ h => h)).mono (S' := fun b => ((In S w w.heap.size (w.heap.size + 1)) b ∧ b < w2.heap.size) ∨ w3.heap.size ≤ b) (fun b _ hb => Or.inr hb.1)); have HSV : Hid (∀ b, b < (w4.alloc (.cells #[.slice (some ⟨gM, 0, none⟩) n n] 29)).heap.size → (((In S w w.heap.size (w.heap.size + 1)) b ∧ b < w2.heap.size) ∨ w3.heap.size ≤ b) → (Value.slice aH m cH).ownBlock ≠ some b) := Lib.hid (fun b _ hb e => by have h1 := HO3.out.lt b e; have h2 := HSIZ.out; omega); have HW4 : Hid (w2.heap.size ≤ (w4.alloc (.cells #[.slice (some ⟨gM, 0, none⟩) n n] 29)).heap.size) := Lib.hid (by have := HSIZ.out; simp; omega); have HC24 : Hid (Chg NoF w2 (w4.alloc (.cells #[.slice (some ⟨gM, 0, none⟩) n n] 29))) := Lib.hid ((HC3.out.trans HC4.out).alloc _); have HBB : Hid (∀ w5, Chg (fun k => w2.heap.size ≤ k) (w4.alloc (.cells #[.slice (some ⟨gM, 0, none⟩) n n] 29)) w5 → Bx S w w5 w.heap.size (w.heap.size + 1) [.slice ka n kc, .slice ta m tc, .slice fa m fc, .slice ga n gc] [.slice none 0 0, .slice none 0 0, .slice none 0 0, .slice none 0 0] (sf s)) := Lib.hid (fun w5 hc5 => ⟨(HB.out.no HC24.out).ref.past hc5 (by have := HSIZ.out; omega) (by have := HSIZ.out; omega), ((((HB.out.fld.mono (S' := fun b => (In S w w.heap.size (w.heap.size + 1)) b ∧ b < w2.heap.size) (fun b hb h => ⟨h, hb⟩)).keep HC24.out (fun _ _ h => h)).keep hc5 (fun b hb e => by have := hb.2; omega)).mono (fun b _ h => h.1))⟩); have H55 : Hid ((s.tL ++ [line n fun _ => 0]).length = m + 1) := Lib.hid (by rw [List.length_append, s.tL_len, HM.out]; rfl); clear HB3 HB q0) | (at_builtin; refine wpList_addRow (S := fun b => ((In S w w.heap.size (w.heap.size + 1)) b ∧ b < w2.heap.size) ∨ w3.heap.size ≤ b) rfl _ _ rfl w2.heap.size (.slice aH m cH) s.tL (by rfl) HO4.out HW4.out HSV.out w4.heap.size _ (.slice (some ⟨gM, 0, none⟩) n n) (line n fun _ => 0) (by rfl) HBU.out HRR2.out HLN.out HHL.out ?_; intro v5 w5 hr5 hc5; obtain ⟨a5, c5, e5⟩ := hr5.val; rw [H55.out] at e5; subst e5; have HB5 := Lib.hid (HBB.out w5 hc5); have b1 : w5.cell? ⟨w.heap.size, 1, none⟩ = some (.slice ta m tc) := HB5.out.ref.bB.cell 1; have f1 := HB5.out.ref.bB.frozen 1; have b2 : w5.cell? ⟨w.heap.size, 2, none⟩ = some (.slice fa m fc) := HB5.out.ref.bB.cell 2; have H5 := Lib.hid hr5; clear hr5 hc5))
  have HB6 : Hid (Bx S w (w5.setCell ⟨w.heap.size, 1, none⟩ (.slice a5 (m + 1) c5)) w.heap.size (w.heap.size + 1) [.slice ka n kc, .slice a5 (m + 1) c5, .slice fa m fc, .slice ga n gc] [.slice none 0 0, .slice none 0 0, .slice none 0 0, .slice none 0 0] [Fd.l (line s.n s.clk), .r (s.tL ++ [line n fun _ => 0]), .l s.fL, .r s.gL]) := Lib.hid (HB5.out.set 1 _ (.r (s.tL ++ [line n fun _ => 0])) (H5.out.mono (S' := (In S w w.heap.size (w.heap.size + 1))) (fun b _ hb => by
    have h2 := HSIZ.out
    rcases hb with (hb | hb) | hb
    · exact hb.1
    · exact .inr ⟨by omega, by omega, by omega⟩
    · exact .inr ⟨by omega, by omega, by omega⟩)))
  clear b1 b2 f1 HB5 H5 HBB HW4 HSV HRR2 HRR HO4 HO3 HBU
  generalize w5.setCell _ _ = w6 at *
  refine (more_ref (In S w w.heap.size (w.heap.size + 1)) _ s.fL 0 w6 (HB6.out.at (f := .l s.fL) 2 rfl rfl) (by rw [s.fL_len, HM.out]; omega)).mono ?_
  rintro e w7 ⟨v7, rfl, hr7, hc7⟩
  have HL7 : Hid ((s.fL ++ [0]).length = m + 1) := Lib.hid (by rw [List.length_append, s.fL_len, HM.out]; rfl)
  obtain ⟨a7, c7, e7⟩ := hr7.val
  rw [HL7.out] at e7
  subst e7
  have HX7 := Lib.hid (HB6.out.told (f := .l _) hr7)
  have HN7 := Lib.hid (HB6.out.no hc7)
  have HB7 : Hid (Bx S w (w7.setCell ⟨w.heap.size, 2, none⟩ (.slice a7 (m + 1) c7)) w.heap.size (w.heap.size + 1) [.slice ka n kc, .slice a5 (m + 1) c5, .slice a7 (m + 1) c7, .slice ga n gc] [.slice none 0 0, .slice none 0 0, .slice none 0 0, .slice none 0 0] (sf s.send0)) := Lib.hid (by rw [← HSF.out]; exact HN7.out.set 2 _ (.l (s.fL ++ [0])) HX7.out)
  have q2 : w7.cell? ⟨w.heap.size, 2, none⟩ = some (.slice fa m fc) := HN7.out.ref.bB.cell 2
  have z2 := HN7.out.ref.bB.frozen 2
  clear hr7 hc7 HB6
  go_wp2_with (first | (refine wpList_plain rfl (fun K hK => wp_loadT aggSkeen _ rfl w.heap.size [.slice ka n kc, .slice a5 (m + 1) c5, .slice a7 (m + 1) c7, .slice ga n gc] (by rfl) HB7.out.ref.bB rfl ?_); refine hK _ _ ?_; clear hK) | (refine wpList_plain rfl (fun K hK => wp_storeT aggSkeen _ _ rfl (w.heap.size + 1) [.slice ka n kc, .slice a5 (m + 1) c5, .slice a7 (m + 1) c7, .slice ga n gc] _ (by rfl) (by rfl) rfl HB7.out.ref.bR rfl rfl ?_); intro wz hBz hcz; have HB8 := Lib.hid (HB7.out.setR hBz hcz); clear hBz hcz; refine hK _ _ ?_; clear hK))
  (try simp only [Exit.inBlock, Exit.then]); refine bodyPost_ret (results_cell3 aggSkeen rfl _ _ _ _ (by rfl) HB8.out.ref.bR rfl) rfl ?_
  rw [HE.out, HDO.out.1, HDO.out.2]
  exact ⟨_, rfl, HB8.out.ans⟩

set_option maxHeartbeats 8000000 in
set_option maxRecDepth 100000 in
theorem hear_ref (S : Nat → Prop) (w : World) (us : List Value) (s : SNet) (h : RdS S w us (sf s)) (hs : SInv s) (p k : Int) :
    Calls Tryd.prog 9 #[.agg us.toArray, .int .i64 p, .int .i64 k] w (SAns S w (s.hear p k) (s.hearVal p k) (s.hearErr p k)) := by
  obtain ⟨ka, kc, ta, tc, fa, fc, ga, gc, rfl⟩ := sf_opn h
  have HU := Lib.hid h
  have HS := Lib.hid hs
  obtain ⟨n, HN⟩ : ∃ n, Hid (s.n = n) := ⟨_, Lib.hid rfl⟩
  obtain ⟨m, HM⟩ : ∃ m, Hid (s.m = m) := ⟨_, Lib.hid rfl⟩
  have H4 : Hid (1 ≤ n ∧ n ≤ 4) := Lib.hid (by rw [← HN.out]; exact ⟨hs.n1, hs.n4⟩)
  have H20 : Hid (m ≤ 20) := Lib.hid (by rw [← HM.out]; exact hs.m20)
  rw [HM.out, HN.out] at HU ⊢
  clear h hs
  have BAD : Hid (∀ x (w' : World), s.hearErr p k = x → x ≠ 0 → Bx S w w' w.heap.size (w.heap.size + 1) [.slice ka n kc, .slice ta m tc, .slice fa m fc, .slice ga n gc] [.slice ka n kc, .slice ta m tc, .slice fa m fc, .slice ga n gc] (sf s) → SAns S w (s.hear p k) (s.hearVal p k) (s.hearErr p k) (.returned (.tuple #[.agg #[.slice ka n kc, .slice ta m tc, .slice fa m fc, .slice ga n gc], .int .i64 0, .int .i64 x])) w') := Lib.hid fun x w' he hx hR => by
    have h1 : s.hear p k = s := by unfold SNet.hear; rw [if_neg (by rw [he]; exact hx)]
    have h2 : s.hearVal p k = 0 := by unfold SNet.hearVal; rw [if_neg (by rw [he]; exact hx)]
    rw [h1, h2, he]
    exact ⟨_, rfl, hR.ans⟩
  cases hip : s.is p k with
  | false =>
    have HE : Hid (s.hearErr p k = 1) := Lib.hid (by unfold SNet.hearErr; rw [if_pos hip])
    have HIP := Lib.hid hip
    clear hip
    go_enter Tryd.func9, Tryd.ntmps9
    go_upto_region 1 with fail
    have HB := Lib.hid (Bx.start w [.slice ka n kc, .slice ta m tc, .slice fa m fc, .slice ga n gc] [.slice none 0 0, .slice none 0 0, .slice none 0 0, .slice none 0 0] (sf s) HU.out 31 31)
    generalize ((w.alloc _).alloc _) = w2 at *
    go_wp2_with (refine wpList_plain rfl (fun K hK => wp_loadT aggSkeen _ rfl w.heap.size [.slice ka n kc, .slice ta m tc, .slice fa m fc, .slice ga n gc] (by rfl) HB.out.ref.bB rfl ?_); refine hK _ _ ?_; clear hK)
    refine (there_ref (In S w w.heap.size (w.heap.size + 1)) w2 _ s HB.out.fld (by rw [HN.out]; exact H4.out.2) (by rw [HM.out]; exact H20.out) p k).mono ?_
    rintro e w3 ⟨rfl, hc3⟩
    have HB3 := Lib.hid (HB.out.no hc3)
    clear hc3 HB
    rw [HIP.out]
    go_wp2_with (first | (refine wpList_plain rfl (fun K hK => wp_loadT aggSkeen _ rfl w.heap.size [.slice ka n kc, .slice ta m tc, .slice fa m fc, .slice ga n gc] (by rfl) HB3.out.ref.bB rfl ?_); refine hK _ _ ?_; clear hK) | (refine wpList_plain rfl (fun K hK => wp_storeT aggSkeen _ _ rfl (w.heap.size + 1) [.slice ka n kc, .slice ta m tc, .slice fa m fc, .slice ga n gc] _ (by rfl) (by rfl) rfl HB3.out.ref.bR rfl rfl ?_); intro wz hBz hcz; have HB9 := Lib.hid (HB3.out.setR hBz hcz); clear hBz hcz; refine hK _ _ ?_; clear hK))
    (try simp only [Exit.inBlock, Exit.then]); refine bodyPost_ret (results_cell3 aggSkeen rfl _ _ _ _ (by rfl) HB9.out.ref.bR rfl) rfl ?_
    exact BAD.out 1 _ HE.out (by omega) HB9.out
  | true =>
  have HIP := Lib.hid hip
  obtain ⟨a, b, rfl, rfl, ha, hb⟩ := (s.is_iff p k).1 hip
  have HPS := Lib.hid ha
  have HKS := Lib.hid hb
  have HPN : Hid (a < n) := Lib.hid (by rw [← HN.out]; exact ha)
  have HKM : Hid (b < m) := Lib.hid (by rw [← HM.out]; exact hb)
  have han : (a : Int) < n := by have := HPN.out; omega
  have hbm : (b : Int) < m := by have := HKM.out; omega
  obtain ⟨tk, HTK⟩ : ∃ x, Hid (s.tm b a = x) := ⟨_, Lib.hid rfl⟩
  obtain ⟨ck, HCK⟩ : ∃ x, Hid (s.clk a = x) := ⟨_, Lib.hid rfl⟩
  have hck := HS.out.clk0 a ha
  have hcl := cnt_le s
  rw [HCK.out] at hck
  obtain ⟨hck1, hck2⟩ : 0 ≤ ck ∧ ck ≤ 400 := by omega
  have HHI := Lib.hid (here_iff HS.out.toSPre ha hb)
  rw [HTK.out] at HHI
  clear ha hb hip hck hcl
  cases hh : s.here b a with
  | true =>
    have HE : Hid (s.hearErr a b = 7) := Lib.hid (by unfold SNet.hearErr; rw [if_neg (by rw [HIP.out]; simp), Int.toNat_natCast, Int.toNat_natCast, if_pos hh])
    rw [hh] at HHI
    have ht : (tk != 0) = true := by have := HHI.out; rw [bne, this]; rfl
    clear hh
    go_enter Tryd.func9, Tryd.ntmps9
    go_upto_region 1 with fail
    have HB := Lib.hid (Bx.start w [.slice ka n kc, .slice ta m tc, .slice fa m fc, .slice ga n gc] [.slice none 0 0, .slice none 0 0, .slice none 0 0, .slice none 0 0] (sf s) HU.out 31 31)
    generalize ((w.alloc _).alloc _) = w2 at *
    go_wp2_with (refine wpList_plain rfl (fun K hK => wp_loadT aggSkeen _ rfl w.heap.size [.slice ka n kc, .slice ta m tc, .slice fa m fc, .slice ga n gc] (by rfl) HB.out.ref.bB rfl ?_); refine hK _ _ ?_; clear hK)
    refine (there_ref (In S w w.heap.size (w.heap.size + 1)) w2 _ s HB.out.fld (by rw [HN.out]; exact H4.out.2) (by rw [HM.out]; exact H20.out) a b).mono ?_
    rintro e w3 ⟨rfl, hc3⟩
    have HB3 := Lib.hid (HB.out.no hc3)
    clear hc3 HB
    rw [HIP.out]
    have q1 : w3.cell? ⟨w.heap.size, 1, none⟩ = some (.slice ta m tc) := HB3.out.ref.bB.cell 1
    have HRT : Hid (Rd2 (In S w w.heap.size (w.heap.size + 1)) w3 (.slice ta m tc) s.tL) := Lib.hid (HB3.out.at (f := .r s.tL) 1 rfl rfl)
    obtain ⟨bT, oT, cT, uT, eT, dT, hruT, hrlT⟩ := HRT.out.at (Chg.refl NoF w3) (fun _ _ h => h) (j := b) (by rw [s.tL_len, HM.out]; exact HKM.out)
    rw [s.tL_len, HM.out] at eT
    simp only [Value.slice.injEq] at eT
    obtain ⟨rfl, -, rfl⟩ := eT
    rw [s.tL_at HKS.out] at hruT hrlT
    have HRU := Lib.hid hruT
    obtain ⟨bU, oU, cU, rfl, -, hcU⟩ := hruT.form (by rw [line_len, HN.out]; have := HPN.out; omega)
    rw [line_len, HN.out] at dT HRU
    have dU := hcU a (by rw [line_len]; exact HPS.out)
    rw [line_at _ HPS.out, HTK.out] at dU
    clear hcU hruT hrlT
    go_wp2_with (first | (refine wpList_plain rfl (fun K hK => wp_loadT aggSkeen _ rfl w.heap.size [.slice ka n kc, .slice (some ⟨bT, oT, none⟩) m tc, .slice fa m fc, .slice ga n gc] (by rfl) HB3.out.ref.bB rfl ?_); refine hK _ _ ?_; clear hK) | (refine wpList_plain rfl (fun K hK => wp_storeT aggSkeen _ _ rfl (w.heap.size + 1) [.slice ka n kc, .slice (some ⟨bT, oT, none⟩) m tc, .slice fa m fc, .slice ga n gc] _ (by rfl) (by rfl) rfl HB3.out.ref.bR rfl rfl ?_); intro wz hBz hcz; have HB9 := Lib.hid (HB3.out.setR hBz hcz); clear hBz hcz; refine hK _ _ ?_; clear hK))
    (try simp only [Exit.inBlock, Exit.then]); refine bodyPost_ret (results_cell3 aggSkeen rfl _ _ _ _ (by rfl) HB9.out.ref.bR rfl) rfl ?_
    exact BAD.out 7 _ HE.out (by omega) HB9.out
  | false =>
  have HE : Hid (s.hearErr a b = 0) := Lib.hid (by unfold SNet.hearErr; rw [if_neg (by rw [HIP.out]; simp), Int.toNat_natCast, Int.toNat_natCast, if_neg (by rw [hh]; simp)])
  have HDO : Hid (s.hear a b = s.hear0 a b ∧ s.hearVal a b = ck + 1) := Lib.hid (by unfold SNet.hear SNet.hearVal; rw [if_pos HE.out, if_pos HE.out, Int.toNat_natCast, Int.toNat_natCast, HCK.out]; exact ⟨rfl, rfl⟩)
  have HSF := Lib.hid (hear_sf HS.out.toSPre HPS.out HKS.out hh)
  rw [HCK.out] at HSF
  rw [hh] at HHI
  have ht : (tk != 0) = false := by have := HHI.out; rw [bne, this]; rfl
  clear hh
  go_enter Tryd.func9, Tryd.ntmps9
  go_upto_region 1 with fail
  have HB := Lib.hid (Bx.start w [.slice ka n kc, .slice ta m tc, .slice fa m fc, .slice ga n gc] [.slice none 0 0, .slice none 0 0, .slice none 0 0, .slice none 0 0] (sf s) HU.out 31 31)
  generalize ((w.alloc _).alloc _) = w2 at *
  go_wp2_with (refine wpList_plain rfl (fun K hK => wp_loadT aggSkeen _ rfl w.heap.size [.slice ka n kc, .slice ta m tc, .slice fa m fc, .slice ga n gc] (by rfl) HB.out.ref.bB rfl ?_); refine hK _ _ ?_; clear hK)
  refine (there_ref (In S w w.heap.size (w.heap.size + 1)) w2 _ s HB.out.fld (by rw [HN.out]; exact H4.out.2) (by rw [HM.out]; exact H20.out) a b).mono ?_
  rintro e w3 ⟨rfl, hc3⟩
  have HB3 := Lib.hid (HB.out.no hc3)
  clear hc3 HB
  rw [HIP.out]
  have q1 : w3.cell? ⟨w.heap.size, 1, none⟩ = some (.slice ta m tc) := HB3.out.ref.bB.cell 1
  have HRT : Hid (Rd2 (In S w w.heap.size (w.heap.size + 1)) w3 (.slice ta m tc) s.tL) := Lib.hid (HB3.out.at (f := .r s.tL) 1 rfl rfl)
  obtain ⟨bT, oT, cT, uT, eT, dT, hruT, hrlT⟩ := HRT.out.at (Chg.refl NoF w3) (fun _ _ h => h) (j := b) (by rw [s.tL_len, HM.out]; exact HKM.out)
  rw [s.tL_len, HM.out] at eT
  simp only [Value.slice.injEq] at eT
  obtain ⟨rfl, -, rfl⟩ := eT
  rw [s.tL_at HKS.out] at hruT hrlT
  have HRU := Lib.hid hruT
  obtain ⟨bU, oU, cU, rfl, -, hcU⟩ := hruT.form (by rw [line_len, HN.out]; have := HPN.out; omega)
  rw [line_len, HN.out] at dT HRU
  have dU := hcU a (by rw [line_len]; exact HPS.out)
  rw [line_at _ HPS.out, HTK.out] at dU
  clear hcU hruT hrlT
  have q0 : w3.cell? ⟨w.heap.size, 0, none⟩ = some (.slice ka n kc) := HB3.out.ref.bB.cell 0
  have HRC : Hid (Rd (In S w w.heap.size (w.heap.size + 1)) w3 (.slice ka n kc) (line s.n s.clk)) := Lib.hid (HB3.out.at (f := .l (line s.n s.clk)) 0 rfl rfl)
  obtain ⟨bC, oC, cC, eC, -, hcC⟩ := HRC.out.form (by rw [line_len, HN.out]; have := HPN.out; omega)
  rw [line_len, HN.out] at eC
  simp only [Value.slice.injEq] at eC
  obtain ⟨rfl, -, rfl⟩ := eC
  have dC := hcC a (by rw [line_len]; exact HPS.out)
  rw [line_at _ HPS.out, HCK.out] at dC
  clear hcC
  go_wp2_with fail
  refine (set_ref (In S w w.heap.size (w.heap.size + 1)) _ (line s.n s.clk) a (ck + 1) w3 HRC.out (by rw [line_len]; exact HPS.out) (by rw [line_len, HN.out]; have := H4.out; omega)).mono ?_
  rintro e w5 ⟨v5, rfl, hr5, hc5⟩
  have HL5 : Hid (((line s.n s.clk).set a (ck + 1)).length = n) := Lib.hid (by rw [List.length_set, line_len, HN.out])
  obtain ⟨a5, c5, e5⟩ := hr5.val
  rw [HL5.out] at e5
  subst e5
  have HX5 := Lib.hid (HB3.out.told (f := .l _) hr5)
  have HN5 := Lib.hid (HB3.out.no hc5)
  have HB5 := Lib.hid (HN5.out.set 0 _ _ HX5.out)
  clear hr5 hc5 
  have q0 : w5.cell? ⟨w.heap.size, 0, none⟩ = some (.slice (some ⟨bC, oC, none⟩) n kc) := HN5.out.ref.bB.cell 0
  have z0 := HN5.out.ref.bB.frozen 0
  have e1 := HN5.out.ref.bB.cell 1
  have q1b : w5.cell? ⟨w.heap.size, 1, none⟩ = some (.slice (some ⟨bT, oT, none⟩) m tc) := e1
  clear q1 dT dU dC ht e1
  go_wp2_with fail
  clear q0 z0 q1b
  generalize w5.setCell _ _ = w6 at *
  have q1 : w6.cell? ⟨w.heap.size, 1, none⟩ = some (.slice (some ⟨bT, oT, none⟩) m tc) := HB5.out.ref.bB.cell 1
  clear HRT HRU
  have HRT : Hid (Rd2 (In S w w.heap.size (w.heap.size + 1)) w6 (.slice (some ⟨bT, oT, none⟩) m tc) s.tL) := Lib.hid (HB5.out.at (f := .r s.tL) 1 rfl rfl)
  obtain ⟨bT2, oT2, cT2, uT, eT, dT, hruT, hrlT⟩ := HRT.out.at (Chg.refl NoF w6) (fun _ _ h => h) (j := b) (by rw [s.tL_len, HM.out]; exact HKM.out)
  rw [s.tL_len, HM.out] at eT
  simp only [Value.slice.injEq, Option.some.injEq, Addr.mk.injEq, and_true] at eT
  obtain ⟨⟨rfl, rfl⟩, -, rfl⟩ := eT
  rw [s.tL_at HKS.out] at hruT hrlT
  obtain ⟨ua, uc, rfl⟩ := hruT.val
  have HRU := Lib.hid (Rd.relen hruT (show (line s.n (s.tm b)).length = n by rw [line_len, HN.out]))
  rw [line_len, HN.out] at dT
  clear hruT hrlT
  refine wp_region_plan (Chg NoF w6) 13 [(0,true),(1,true),(2,true),(3,true),(4,true),(5,true),(6,true),(7,true),(8,true),(9,true),(10,false),(11,false),(12,true),(13,false)] mixed (by kernel_rfl) (Chg.refl _ _).drew ?_
  simp only [planOps, List.map_cons, List.map_nil, List.getElem?_cons_zero, List.getElem?_cons_succ, Option.getD_some]
  generalize hops : List.toArray _ = ops
  iterate 10 (refine wpPlan_quiet (v := ?_) rfl (fun _ _ _ h => h) (by intro w1 hS; have s0 := hS.cell_some q1 (fun h => h); have s1 := hS.cell_some dT (fun h => h); clear hS; go_simp; with_reducible rfl) ?_; (simp only [Act.put, List.setIfInBounds_toArray, List.set_cons_zero, List.set_cons_succ]))
  refine wpPlan_loud rfl (fun K hK => ?_)
  go_simp
  have HD7 := Lib.hid (HB5.out.no ((Chg.refl NoF w6).drew))
  refine (set_ref (In S w w.heap.size (w.heap.size + 1)) _ (line s.n (s.tm b)) a (ck + 1) _ (HRU.out.keep ((Chg.refl NoF w6).drew) (fun _ _ h => h)) (by rw [line_len]; exact HPS.out) (by rw [line_len, HN.out]; have := H4.out; omega)).mono ?_
  rintro e w7 ⟨v7, rfl, hr7, hc7⟩
  have HL7 : Hid (((line s.n (s.tm b)).set a (ck + 1)).length = n) := Lib.hid (by rw [List.length_set, line_len, HN.out])
  obtain ⟨a7, c7, e7⟩ := hr7.val
  rw [HL7.out] at e7
  subst e7
  have HC7 : Hid (Chg NoF w6 w7) := Lib.hid (((Chg.refl NoF w6).drew).trans hc7)
  have HX7 : Hid (Rd (In S w w.heap.size (w.heap.size + 1)) w7 (.slice a7 (n) c7) ((line s.n (s.tm b)).set a (ck + 1))) := Lib.hid (HD7.out.told (f := .l _) hr7)
  refine hK _ _ (fun _ => HC7.out) ?_
  clear hK K hr7 hc7 HD7
  (try simp only [Act.put, List.setIfInBounds_toArray, List.set_cons_zero, List.set_cons_succ])
  refine wpPlan_loud rfl (fun K hK => ?_)
  go_simp
  refine (rows_ref (In S w w.heap.size (w.heap.size + 1)) _ _ s.tL b ((line s.n (s.tm b)).set a (ck + 1)) w7 (HRT.out.keep HC7.out (fun _ _ h => h)) HX7.out (by rw [HL7.out]; have := H4.out; omega) (by rw [s.tL_len, HM.out]; exact HKM.out) (by rw [s.tL_len, HM.out]; have := H20.out; omega)).mono ?_
  rintro e w8 ⟨v8, rfl, hr8, hc8⟩
  obtain ⟨a8, c8, e8⟩ := hr8.val
  rw [List.length_set, s.tL_len, HM.out] at e8
  subst e8
  have HC8 : Hid (Chg NoF w6 w8) := Lib.hid (HC7.out.trans hc8)
  have HN8 := Lib.hid (HB5.out.no HC8.out)
  have HX8 := Lib.hid ((HB5.out.no HC7.out).told (f := .r _) hr8)
  refine hK _ _ (fun _ => HC8.out) ?_
  clear hK K hr8 hc8
  (try simp only [Act.put, List.setIfInBounds_toArray, List.set_cons_zero, List.set_cons_succ])
  (refine wpPlan_quiet (v := ?_) rfl (fun _ _ _ h => h) (by intro w1 hS; clear hS; go_simp; with_reducible rfl) ?_; (simp only [Act.put, List.setIfInBounds_toArray, List.set_cons_zero, List.set_cons_succ]))
  refine wpPlan_loud rfl (fun K hK => ?_)
  have sx : w8.cell? ⟨w.heap.size, 1, none⟩ = some (.slice (some ⟨bT, oT, none⟩) m tc) := HN8.out.ref.bB.cell 1
  have zx := HN8.out.ref.bB.frozen 1
  go_simp
  refine hK _ _ (fun h => absurd rfl h) ?_
  clear hK K
  clear hops
  refine wpPlan_nil ?_
  have HB8 := Lib.hid (HN8.out.set 1 _ _ HX8.out)
  clear sx zx q1 dT HB5 HRT HRU HX7 HC7 HC8 HX8 HN8
  generalize w8.setCell _ _ = w9 at *
  have HB8b : Hid (Bx S w w9 w.heap.size (w.heap.size + 1) [.slice a5 n c5, .slice a8 m c8, .slice fa m fc, .slice ga n gc] [.slice none 0 0, .slice none 0 0, .slice none 0 0, .slice none 0 0] (sf (s.hear0 a b))) := Lib.hid (by rw [← HSF.out]; exact HB8.out)
  go_wp2_with (first | (refine wpList_plain rfl (fun K hK => wp_loadT aggSkeen _ rfl w.heap.size [.slice a5 n c5, .slice a8 m c8, .slice fa m fc, .slice ga n gc] (by rfl) HB8b.out.ref.bB rfl ?_); refine hK _ _ ?_; clear hK) | (refine wpList_plain rfl (fun K hK => wp_storeT aggSkeen _ _ rfl (w.heap.size + 1) [.slice a5 n c5, .slice a8 m c8, .slice fa m fc, .slice ga n gc] _ (by rfl) (by rfl) rfl HB8b.out.ref.bR rfl rfl ?_); intro wz hBz hcz; have HB9 := Lib.hid (HB8b.out.setR hBz hcz); clear hBz hcz; refine hK _ _ ?_; clear hK))
  (try simp only [Exit.inBlock, Exit.then]); refine bodyPost_ret (results_cell3 aggSkeen rfl _ _ _ _ (by rfl) HB9.out.ref.bR rfl) rfl ?_
  rw [HE.out, HDO.out.1, HDO.out.2]
  exact ⟨_, rfl, HB9.out.ans⟩

end Go.Proofs.YtbindapfjghnaaaDoor
