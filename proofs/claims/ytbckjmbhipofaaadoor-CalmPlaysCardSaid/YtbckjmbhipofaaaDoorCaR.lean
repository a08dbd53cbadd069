/-
  The document's answers about the net of work and thanks: what each function computes.
  Conditions: the answer's lists are read, and tell the program's net.
-/
import Derived.Test.YtbckjmbhipofaaaDoorCaF
import Derived.Test.YtbckjmbhipofaaaDoorBox
import Derived.Test.YtbckjmbhipofaaaDoorSetB
import Derived.Test.YtbckjmbhipofaaaDoorFlat
import Derived.Deep.DeepCutAuto
namespace Go.Proofs.YtbckjmbhipofaaaDoor
open Go Go.RowKit

/-- The document's net, field by field. -/
def cf (s : CNet) : List Fd := [.i s.n, .i (setB s.works s.n : Nat), .l (line s.n s.parent), .l (line s.n s.owed), .r (flat s.n s.ways), .i s.sent, .b s.calm]

theorem aggCalm : AggT Tryd.prog 31 7 := AggT.mk' (fun w => by kernel_rfl) Tryd.underlying31 rfl (by kernel_rfl)

theorem cf_opn {S : Nat → Prop} {w : World} {us : List Value} {s : CNet} (h : RdS S w us (cf s)) : ∃ (pa : Option Addr) (pc : Nat) (oa : Option Addr) (oc : Nat) (wa : Option Addr) (wc : Nat), us = [.int .i64 (s.n : Int), .int .i64 (setB s.works s.n : Nat), .slice pa s.n pc, .slice oa s.n oc, .slice wa (s.n * s.n) wc, .int .i64 s.sent, .bool s.calm] := by
  obtain ⟨v0, us, rfl, h0, h⟩ := h.cons_inv
  obtain ⟨v1, us, rfl, h1, h⟩ := h.cons_inv
  obtain ⟨v2, us, rfl, h2, h⟩ := h.cons_inv
  obtain ⟨v3, us, rfl, h3, h⟩ := h.cons_inv
  obtain ⟨v4, us, rfl, h4, h⟩ := h.cons_inv
  obtain ⟨v5, us, rfl, h5, h⟩ := h.cons_inv
  obtain ⟨v6, us, rfl, h6, h⟩ := h.cons_inv
  obtain rfl := h.nil_inv
  obtain ⟨pa, pc, rfl⟩ := Rd.val h2
  obtain ⟨oa, oc, rfl⟩ := Rd.val h3
  obtain ⟨wa, wc, rfl⟩ := Rd2.val h4
  obtain rfl := h0
  obtain rfl := h1
  obtain rfl := h5
  obtain rfl := h6
  rw [line_len, line_len, flat_len]
  exact ⟨_, _, _, _, _, _, rfl⟩

def CAns (S : Nat → Prop) (w : World) (s' : CNet) (err : Int) (e : Ending) (w' : World) : Prop := ∃ v, e = .returned (.tuple #[v, .int .i64 err]) ∧ AnsF S w (cf s') v w'

theorem cf_push (s : CNet) {p q : Nat} (hq : q < s.n) (x : Int) : (cf s).set 4 (.r ((flat s.n s.ways).set (p * s.n + q) (s.ways p q ++ [x]))) = cf (s.push p q x) := by
  rw [flat_set _ hq]; rfl
theorem cf_pop (s : CNet) {p q : Nat} (hq : q < s.n) : (cf s).set 4 (.r ((flat s.n s.ways).set (p * s.n + q) (s.ways p q).tail)) = cf (s.pop p q) := by
  rw [flat_set _ hq]; rfl
theorem cf_owed (s : CNet) (p : Nat) (x : Int) : (cf s).set 3 (.l ((line s.n s.owed).set p x)) = cf { s with owed := put1 s.owed p x } := by
  rw [line_set]; rfl
theorem cf_parent (s : CNet) (p : Nat) (x : Int) : (cf s).set 2 (.l ((line s.n s.parent).set p x)) = cf { s with parent := put1 s.parent p x } := by
  rw [line_set]; rfl
theorem cf_stop (s : CNet) {p : Nat} (hp : p < s.n) (hw : s.works p = true) : (cf s).set 1 (.i ((setB s.works s.n : Nat) - ((2 ^ p : Nat) : Int))) = cf { s with works := put1 s.works p false } := by
  have h := setB_drop s.works p hw s.n hp
  have e : ((setB s.works s.n : Nat) : Int) - ((2 ^ p : Nat) : Int) = (setB (put1 s.works p false) s.n : Nat) := by
    have e2 : setB (fun k => if k = p then false else s.works k) s.n = setB (put1 s.works p false) s.n := rfl
    rw [e2] at h
    omega
  rw [e]; rfl
theorem cf_works (s : CNet) {p : Nat} (hp : p < s.n) : (cf s).set 1 (.i (withB (setB s.works s.n) p : Nat)) = cf { s with works := put1 s.works p true } := by
  rw [with_setB _ hp]; rfl

set_option maxHeartbeats 8000000 in
set_option maxRecDepth 100000 in
theorem sendCalm_ref (S : Nat → Prop) (w : World) (us : List Value) (s : CNet) (h : RdS S w us (cf s)) (h5 : s.n ≤ 5) (p q : Nat) (hp : p < s.n) (hq : q < s.n) (x : Int) (hlen : (s.ways p q).length < 5000) :
    Calls Tryd.prog 23 #[.agg us.toArray, .int .i64 p, .int .i64 q, .int .i64 x] w (fun e w' => ∃ v, e = .returned v ∧ AnsF S w (cf (s.push p q x)) v w') := by
  obtain ⟨pa, pc, oa, oc, wa, wc, rfl⟩ := cf_opn h
  have HU := Lib.hid h
  obtain ⟨n, HN⟩ : ∃ n, Hid (s.n = n) := ⟨_, Lib.hid rfl⟩
  obtain ⟨m, HM⟩ : ∃ m, Hid (setB s.works s.n = m) := ⟨_, Lib.hid rfl⟩
  obtain ⟨nn, HNN⟩ : ∃ nn, Hid (n * n = nn) := ⟨_, Lib.hid rfl⟩
  obtain ⟨st, HST⟩ : ∃ st, Hid (s.sent = st) := ⟨_, Lib.hid rfl⟩
  obtain ⟨cl, HCL⟩ : ∃ cl, Hid (s.calm = cl) := ⟨_, Lib.hid rfl⟩
  have H5 : Hid (n ≤ 5) := Lib.hid (by rw [← HN.out]; exact h5)
  have HM32 : Hid (m < 32) := Lib.hid (by rw [← HM.out]; exact Nat.lt_of_lt_of_le (setB_lt _ _) (Nat.pow_le_pow_right (n := 2) (by omega) h5))
  have HN25 : Hid (nn ≤ 25) := Lib.hid (by rw [← HNN.out]; exact Nat.mul_le_mul H5.out H5.out)
  rw [HM.out, HN.out, HNN.out, HST.out, HCL.out] at HU ⊢
  clear h h5
  have HPS := Lib.hid hp
  have HQS := Lib.hid hq
  have HPN : Hid (p < n) := Lib.hid (by rw [← HN.out]; exact hp)
  have HQN : Hid (q < n) := Lib.hid (by rw [← HN.out]; exact hq)
  have HLEN := Lib.hid hlen
  clear hp hq hlen
  have HCF := Lib.hid (cf_push s HQS.out (p := p) x)
  obtain ⟨mm, HMM⟩ : ∃ mm, Hid (p * n = mm) := ⟨_, Lib.hid rfl⟩
  obtain ⟨k, HK⟩ : ∃ k, Hid (mm + q = k) := ⟨_, Lib.hid rfl⟩
  have HKN : Hid (k < nn) := Lib.hid (by rw [← HK.out, ← HMM.out, ← HNN.out]; exact flat_lt HPN.out HQN.out)
  have HMM2 : Hid (mm ≤ 25) := Lib.hid (by have := HK.out; have := HKN.out; have := HN25.out; omega)
  have hw1 : IntKind.i64.wrap ((p : Int) * (n : Int)) = (mm : Int) := by rw [← Int.natCast_mul, HMM.out]; exact IntWalk.i64_in _ (by have := HMM2.out; omega)
  have hw2 : IntKind.i64.wrap ((mm : Int) + (q : Int)) = (k : Int) := by rw [← HK.out, Int.natCast_add]; exact IntWalk.i64_in _ (by have := HMM2.out; have := HKN.out; have := HK.out; have := HN25.out; omega)
  have hw3 : wrap64 ((p : Int) * (n : Int)) = (mm : Int) := by rw [← Int.natCast_mul, HMM.out]; exact IntWalk.wrap64_in _ (by have := HMM2.out; omega)
  have hw4 : wrap64 ((mm : Int) + (q : Int)) = (k : Int) := by rw [← HK.out, Int.natCast_add]; exact IntWalk.wrap64_in _ (by have := HMM2.out; have := HKN.out; have := HK.out; have := HN25.out; omega)
  have hkn : (k : Int) < nn := by have := HKN.out; omega
  have HIX : Hid (p * s.n + q = k) := Lib.hid (by rw [HN.out, HMM.out, HK.out])
  rw [HIX.out] at HCF
  go_enter Tryd.func23, Tryd.ntmps23
  go_upto_region 1 with fail
  have HB := Lib.hid (Bx.start w [.int .i64 (n : Int), .int .i64 (m : Int), .slice pa n pc, .slice oa n oc, .slice wa nn wc, .int .i64 st, .bool cl] [.int .i64 0, .int .i64 0, .slice none 0 0, .slice none 0 0, .slice none 0 0, .int .i64 0, .bool false] (cf s) HU.out 31 31)
  generalize ((w.alloc _).alloc _) = w2 at *
  have q0 : w2.cell? ⟨w.heap.size, 0, none⟩ = some (.int .i64 (n : Int)) := HB.out.ref.bB.cell 0
  have q4 : w2.cell? ⟨w.heap.size, 4, none⟩ = some (.slice wa nn wc) := HB.out.ref.bB.cell 4
  have HWY : Hid (Rd2 (In S w w.heap.size (w.heap.size + 1)) w2 (.slice wa nn wc) (flat s.n s.ways)) := Lib.hid (HB.out.at 4 rfl rfl)
  have HFL : Hid ((flat s.n s.ways).length = nn) := Lib.hid (by rw [flat_len, HN.out, HNN.out])
  obtain ⟨bG, oG, cG, u, ev, dr, hru, hrl⟩ := HWY.out.at (Chg.refl NoF w2) (fun _ _ h => h) (j := k) (by rw [HFL.out]; exact HKN.out)
  rw [HFL.out] at ev
  simp only [Value.slice.injEq] at ev
  obtain ⟨rfl, -, rfl⟩ := ev
  rw [← HIX.out, flat_at _ HPS.out HQS.out] at hru hrl
  have HRU := Lib.hid hru
  obtain ⟨ua, uc, rfl⟩ := hru.val
  obtain ⟨gl, HGL⟩ : ∃ gl, Hid ((s.ways p q).length = gl) := ⟨_, Lib.hid rfl⟩
  rw [HGL.out] at dr HRU HLEN
  clear hru hrl
  refine wp_region_plan (Chg NoF w2) 22 [(0,true),(1,true),(2,true),(3,true),(4,true),(5,true),(6,true),(7,true),(8,true),(9,true),(10,true),(11,true),(12,true),(13,true),(14,true),(15,true),(16,true),(17,true),(18,true),(19,false),(20,false),(21,true),(22,false)] mixed (by kernel_rfl) (Chg.refl _ _).drew ?_
  simp only [planOps, List.map_cons, List.map_nil, List.getElem?_cons_zero, List.getElem?_cons_succ, Option.getD_some]
  generalize hops : List.toArray _ = ops
  iterate 19 (refine wpPlan_quiet (v := ?_) rfl (fun _ _ _ h => h) (by intro w1 hS; have s0 := hS.cell_some q4 (fun h => h); have s1 := hS.cell_some q0 (fun h => h); have s2 := hS.cell_some dr (fun h => h); clear hS; go_simp; with_reducible rfl) ?_; (simp only [Act.put, List.setIfInBounds_toArray, List.set_cons_zero, List.set_cons_succ]))
  refine wpPlan_loud rfl (fun K hK => ?_)
  go_simp
  have HD3 := Lib.hid (HB.out.no ((Chg.refl NoF w2).drew))
  refine (more_ref (In S w w.heap.size (w.heap.size + 1)) _ (s.ways p q) x _ (HRU.out.keep ((Chg.refl NoF w2).drew) (fun _ _ h => h)) (by rw [HGL.out]; have := HLEN.out; omega)).mono ?_
  rintro e w3 ⟨v3, rfl, hr3, hc3⟩
  have HL3 : Hid ((s.ways p q ++ [x]).length = gl + 1) := Lib.hid (by rw [List.length_append, HGL.out]; rfl)
  obtain ⟨a3, c3, e3⟩ := hr3.val
  rw [HL3.out] at e3
  subst e3
  have HC3 : Hid (Chg NoF w2 w3) := Lib.hid (((Chg.refl NoF w2).drew).trans hc3)
  have HX3 : Hid (Rd (In S w w.heap.size (w.heap.size + 1)) w3 (.slice a3 (gl + 1) c3) (s.ways p q ++ [x])) := Lib.hid (HD3.out.told (f := .l _) hr3)
  refine hK _ _ (fun _ => HC3.out) ?_
  clear hK K hr3 hc3 HD3
  (try simp only [Act.put, List.setIfInBounds_toArray, List.set_cons_zero, List.set_cons_succ])
  refine wpPlan_loud rfl (fun K hK => ?_)
  go_simp
  refine (rows_ref (In S w w.heap.size (w.heap.size + 1)) _ _ (flat s.n s.ways) k (s.ways p q ++ [x]) w3 (HWY.out.keep HC3.out (fun _ _ h => h)) HX3.out (by rw [HL3.out]; have := HLEN.out; omega) (by rw [HFL.out]; exact HKN.out) (by rw [HFL.out]; have := HN25.out; omega)).mono ?_
  rintro e w4 ⟨v4, rfl, hr4, hc4⟩
  obtain ⟨a4, c4, e4⟩ := hr4.val
  rw [List.length_set, HFL.out] at e4
  subst e4
  have HC4 : Hid (Chg NoF w2 w4) := Lib.hid (HC3.out.trans hc4)
  have HN4 := Lib.hid (HB.out.no HC4.out)
  have HX4 := Lib.hid ((HB.out.no HC3.out).told (f := .r _) hr4)
  refine hK _ _ (fun _ => HC4.out) ?_
  clear hK K hr4 hc4
  (try simp only [Act.put, List.setIfInBounds_toArray, List.set_cons_zero, List.set_cons_succ])
  (refine wpPlan_quiet (v := ?_) rfl (fun _ _ _ h => h) (by intro w1 hS; clear hS; go_simp; with_reducible rfl) ?_; (simp only [Act.put, List.setIfInBounds_toArray, List.set_cons_zero, List.set_cons_succ]))
  refine wpPlan_loud rfl (fun K hK => ?_)
  have sx : w4.cell? ⟨w.heap.size, 4, none⟩ = some (.slice (some ⟨bG, oG, none⟩) nn wc) := HN4.out.ref.bB.cell 4
  have zx := HN4.out.ref.bB.frozen 4
  go_simp
  refine hK _ _ (fun h => absurd rfl h) ?_
  clear hK K
  clear hops
  refine wpPlan_nil ?_
  have HB4 := Lib.hid (HN4.out.set 4 _ _ HX4.out)
  clear sx zx q0 q4 dr HB HX3 HC3 HWY HC4 HX4 HN4
  generalize w4.setCell _ _ = w5 at *
  rw [HCF.out] at HB4
  go_wp2_with (first | (refine wpList_plain rfl (fun K hK => wp_loadT aggCalm _ rfl w.heap.size [.int .i64 (n : Int), .int .i64 (m : Int), .slice pa n pc, .slice oa n oc, .slice a4 nn c4, .int .i64 st, .bool cl] (by rfl) HB4.out.ref.bB rfl ?_); refine hK _ _ ?_; clear hK) | (refine wpList_plain rfl (fun K hK => wp_storeT aggCalm _ _ rfl (w.heap.size + 1) [.int .i64 (n : Int), .int .i64 (m : Int), .slice pa n pc, .slice oa n oc, .slice a4 nn c4, .int .i64 st, .bool cl] _ (by rfl) (by rfl) rfl HB4.out.ref.bR rfl rfl ?_); intro wz hBz hcz; have HB5 := Lib.hid (HB4.out.setR hBz hcz); clear hBz hcz; refine hK _ _ ?_; clear hK))
  (try simp only [Exit.inBlock, Exit.then]); refine bodyPost_ret (results_cell1 aggCalm rfl _ _ _ _ (by rfl) HB5.out.ref.bR rfl) rfl ?_
  exact ⟨_, rfl, HB5.out.ans⟩

set_option maxHeartbeats 8000000 in
set_option maxRecDepth 100000 in
theorem rest_ref (S : Nat → Prop) (w : World) (us : List Value) (s : CNet) (h : RdS S w us (cf s)) (h5 : s.n ≤ 5) (p : Nat) (hp : p < s.n) (hpar : -1 ≤ s.parent p ∧ s.parent p < s.n) (how : -5000 ≤ s.owed p ∧ s.owed p ≤ 5000) (hlen : ∀ q, q < s.n → (s.ways p q).length < 5000) :
    Calls Tryd.prog 27 #[.agg us.toArray, .int .i64 p] w (fun e w' => ∃ v, e = .returned v ∧ AnsF S w (cf (s.rest p)) v w') := by
  obtain ⟨pa, pc, oa, oc, wa, wc, rfl⟩ := cf_opn h
  have HU := Lib.hid h
  obtain ⟨n, HN⟩ : ∃ n, Hid (s.n = n) := ⟨_, Lib.hid rfl⟩
  obtain ⟨m, HM⟩ : ∃ m, Hid (setB s.works s.n = m) := ⟨_, Lib.hid rfl⟩
  obtain ⟨nn, HNN⟩ : ∃ nn, Hid (n * n = nn) := ⟨_, Lib.hid rfl⟩
  obtain ⟨st, HST⟩ : ∃ st, Hid (s.sent = st) := ⟨_, Lib.hid rfl⟩
  obtain ⟨cl, HCL⟩ : ∃ cl, Hid (s.calm = cl) := ⟨_, Lib.hid rfl⟩
  have H5 : Hid (n ≤ 5) := Lib.hid (by rw [← HN.out]; exact h5)
  have HM32 : Hid (m < 32) := Lib.hid (by rw [← HM.out]; exact Nat.lt_of_lt_of_le (setB_lt _ _) (Nat.pow_le_pow_right (n := 2) (by omega) h5))
  have HN25 : Hid (nn ≤ 25) := Lib.hid (by rw [← HNN.out]; exact Nat.mul_le_mul H5.out H5.out)
  rw [HM.out, HN.out, HNN.out, HST.out, HCL.out] at HU ⊢
  clear h h5
  have HPS := Lib.hid hp
  have HPN : Hid (p < n) := Lib.hid (by rw [← HN.out]; exact hp)
  have HLEN := Lib.hid hlen
  have hpn : (p : Int) < n := by have := HPN.out; omega
  have HBIT := Lib.hid (fun wq => bit_any m p (by have := HM32.out; omega) (by have := HPN.out; have := H5.out; omega) wq)
  rw [show bitB m p = s.works p by rw [← HM.out]; exact bit_setB _ _ _ HPS.out] at HBIT
  obtain ⟨pr, HPR⟩ : ∃ pr, Hid (s.parent p = pr) := ⟨_, Lib.hid rfl⟩
  obtain ⟨ow, HOW⟩ : ∃ ow, Hid (s.owed p = ow) := ⟨_, Lib.hid rfl⟩
  rw [HPR.out, HN.out] at hpar
  rw [HOW.out] at how
  obtain ⟨hpar1, hpar2⟩ := hpar
  obtain ⟨how1, how2⟩ := how
  clear hp hlen
  cases hwk : s.works p with
  | true =>
    have HWK := Lib.hid hwk
    rw [hwk] at HBIT
    clear hwk
    go_enter Tryd.func27, Tryd.ntmps27
    go_upto_region 1 with fail
    have HB := Lib.hid (Bx.start w [.int .i64 (n : Int), .int .i64 (m : Int), .slice pa n pc, .slice oa n oc, .slice wa nn wc, .int .i64 st, .bool cl] [.int .i64 0, .int .i64 0, .slice none 0 0, .slice none 0 0, .slice none 0 0, .int .i64 0, .bool false] (cf s) HU.out 31 31)
    generalize ((w.alloc _).alloc _) = w2 at *
    have q1 : w2.cell? ⟨w.heap.size, 1, none⟩ = some (.int .i64 (m : Int)) := HB.out.ref.bB.cell 1
    have q2 : w2.cell? ⟨w.heap.size, 2, none⟩ = some (.slice pa n pc) := HB.out.ref.bB.cell 2
    have q3 : w2.cell? ⟨w.heap.size, 3, none⟩ = some (.slice oa n oc) := HB.out.ref.bB.cell 3
    have HRP : Hid (Rd (In S w w.heap.size (w.heap.size + 1)) w2 (.slice pa n pc) (line s.n s.parent)) := Lib.hid (HB.out.at 2 rfl rfl)
    have HRO : Hid (Rd (In S w w.heap.size (w.heap.size + 1)) w2 (.slice oa n oc) (line s.n s.owed)) := Lib.hid (HB.out.at 3 rfl rfl)
    obtain ⟨bP, oP, cP, eP, -, hcP⟩ := HRP.out.form (by rw [line_len, HN.out]; have := HPN.out; omega)
    rw [line_len, HN.out] at eP
    simp only [Value.slice.injEq] at eP
    obtain ⟨rfl, -, rfl⟩ := eP
    have dP := hcP p (by rw [line_len]; exact HPS.out)
    rw [line_at _ HPS.out, HPR.out] at dP
    obtain ⟨bO, oO, cO, eO, -, hcO⟩ := HRO.out.form (by rw [line_len, HN.out]; have := HPN.out; omega)
    rw [line_len, HN.out] at eO
    simp only [Value.slice.injEq] at eO
    obtain ⟨rfl, -, rfl⟩ := eO
    have dO := hcO p (by rw [line_len]; exact HPS.out)
    rw [line_at _ HPS.out, HOW.out] at dO
    clear hcP hcO
    go_wp2_with fail
    refine (HBIT.out w2).mono ?_
    rintro e w3 ⟨rfl, rfl⟩
    go_wp2_with (first | (refine wpList_plain rfl (fun K hK => wp_loadT aggCalm _ rfl w.heap.size [.int .i64 (n : Int), .int .i64 (m : Int), .slice (some ⟨bP, oP, none⟩) n pc, .slice (some ⟨bO, oO, none⟩) n oc, .slice wa nn wc, .int .i64 st, .bool cl] (by rfl) HB.out.ref.bB rfl ?_); refine hK _ _ ?_; clear hK) | (refine wpList_plain rfl (fun K hK => wp_storeT aggCalm _ _ rfl (w.heap.size + 1) [.int .i64 (n : Int), .int .i64 (m : Int), .slice (some ⟨bP, oP, none⟩) n pc, .slice (some ⟨bO, oO, none⟩) n oc, .slice wa nn wc, .int .i64 st, .bool cl] _ (by rfl) (by rfl) rfl HB.out.ref.bR rfl rfl ?_); intro wz hBz hcz; have HB3 := Lib.hid (HB.out.setR hBz hcz); clear hBz hcz; refine hK _ _ ?_; clear hK))
    (try simp only [Exit.inBlock, Exit.then]); refine bodyPost_ret (results_cell1 aggCalm rfl _ _ _ _ (by rfl) HB3.out.ref.bR rfl) rfl ?_
    rw [show s.rest p = s by unfold CNet.rest; rw [if_pos HWK.out]]
    exact ⟨_, rfl, HB3.out.ans⟩
  | false =>
  have HWK : Hid (¬ s.works p = true) := Lib.hid (by rw [hwk]; simp)
  rw [hwk] at HBIT
  clear hwk
  by_cases ho : 0 < ow
  · have HO : Hid (0 < s.owed p) := Lib.hid (by rw [HOW.out]; exact ho)
    have hod : decide (0 < ow) = true := decide_eq_true ho
    go_enter Tryd.func27, Tryd.ntmps27
    go_upto_region 1 with fail
    have HB := Lib.hid (Bx.start w [.int .i64 (n : Int), .int .i64 (m : Int), .slice pa n pc, .slice oa n oc, .slice wa nn wc, .int .i64 st, .bool cl] [.int .i64 0, .int .i64 0, .slice none 0 0, .slice none 0 0, .slice none 0 0, .int .i64 0, .bool false] (cf s) HU.out 31 31)
    generalize ((w.alloc _).alloc _) = w2 at *
    have q1 : w2.cell? ⟨w.heap.size, 1, none⟩ = some (.int .i64 (m : Int)) := HB.out.ref.bB.cell 1
    have q2 : w2.cell? ⟨w.heap.size, 2, none⟩ = some (.slice pa n pc) := HB.out.ref.bB.cell 2
    have q3 : w2.cell? ⟨w.heap.size, 3, none⟩ = some (.slice oa n oc) := HB.out.ref.bB.cell 3
    have HRP : Hid (Rd (In S w w.heap.size (w.heap.size + 1)) w2 (.slice pa n pc) (line s.n s.parent)) := Lib.hid (HB.out.at 2 rfl rfl)
    have HRO : Hid (Rd (In S w w.heap.size (w.heap.size + 1)) w2 (.slice oa n oc) (line s.n s.owed)) := Lib.hid (HB.out.at 3 rfl rfl)
    obtain ⟨bP, oP, cP, eP, -, hcP⟩ := HRP.out.form (by rw [line_len, HN.out]; have := HPN.out; omega)
    rw [line_len, HN.out] at eP
    simp only [Value.slice.injEq] at eP
    obtain ⟨rfl, -, rfl⟩ := eP
    have dP := hcP p (by rw [line_len]; exact HPS.out)
    rw [line_at _ HPS.out, HPR.out] at dP
    obtain ⟨bO, oO, cO, eO, -, hcO⟩ := HRO.out.form (by rw [line_len, HN.out]; have := HPN.out; omega)
    rw [line_len, HN.out] at eO
    simp only [Value.slice.injEq] at eO
    obtain ⟨rfl, -, rfl⟩ := eO
    have dO := hcO p (by rw [line_len]; exact HPS.out)
    rw [line_at _ HPS.out, HOW.out] at dO
    clear hcP hcO
    go_wp2_with fail
    refine (HBIT.out w2).mono ?_
    rintro e w3 ⟨rfl, rfl⟩
    go_wp2_with (first | (refine wpList_plain rfl (fun K hK => wp_loadT aggCalm _ rfl w.heap.size [.int .i64 (n : Int), .int .i64 (m : Int), .slice (some ⟨bP, oP, none⟩) n pc, .slice (some ⟨bO, oO, none⟩) n oc, .slice wa nn wc, .int .i64 st, .bool cl] (by rfl) HB.out.ref.bB rfl ?_); refine hK _ _ ?_; clear hK) | (refine wpList_plain rfl (fun K hK => wp_storeT aggCalm _ _ rfl (w.heap.size + 1) [.int .i64 (n : Int), .int .i64 (m : Int), .slice (some ⟨bP, oP, none⟩) n pc, .slice (some ⟨bO, oO, none⟩) n oc, .slice wa nn wc, .int .i64 st, .bool cl] _ (by rfl) (by rfl) rfl HB.out.ref.bR rfl rfl ?_); intro wz hBz hcz; have HB3 := Lib.hid (HB.out.setR hBz hcz); clear hBz hcz; refine hK _ _ ?_; clear hK))
    (try simp only [Exit.inBlock, Exit.then]); refine bodyPost_ret (results_cell1 aggCalm rfl _ _ _ _ (by rfl) HB3.out.ref.bR rfl) rfl ?_
    rw [show s.rest p = s by unfold CNet.rest; rw [if_neg HWK.out, if_pos HO.out]]
    exact ⟨_, rfl, HB3.out.ans⟩
  have HO : Hid (¬ 0 < s.owed p) := Lib.hid (by rw [HOW.out]; exact ho)
  have hod : decide (0 < ow) = false := decide_eq_false ho
  by_cases hpl : pr < 0
  · have HPL : Hid (s.parent p < 0) := Lib.hid (by rw [HPR.out]; exact hpl)
    have hpd : decide (pr < 0) = true := decide_eq_true hpl
    clear ho
    go_enter Tryd.func27, Tryd.ntmps27
    go_upto_region 1 with fail
    have HB := Lib.hid (Bx.start w [.int .i64 (n : Int), .int .i64 (m : Int), .slice pa n pc, .slice oa n oc, .slice wa nn wc, .int .i64 st, .bool cl] [.int .i64 0, .int .i64 0, .slice none 0 0, .slice none 0 0, .slice none 0 0, .int .i64 0, .bool false] (cf s) HU.out 31 31)
    generalize ((w.alloc _).alloc _) = w2 at *
    have q1 : w2.cell? ⟨w.heap.size, 1, none⟩ = some (.int .i64 (m : Int)) := HB.out.ref.bB.cell 1
    have q2 : w2.cell? ⟨w.heap.size, 2, none⟩ = some (.slice pa n pc) := HB.out.ref.bB.cell 2
    have q3 : w2.cell? ⟨w.heap.size, 3, none⟩ = some (.slice oa n oc) := HB.out.ref.bB.cell 3
    have HRP : Hid (Rd (In S w w.heap.size (w.heap.size + 1)) w2 (.slice pa n pc) (line s.n s.parent)) := Lib.hid (HB.out.at 2 rfl rfl)
    have HRO : Hid (Rd (In S w w.heap.size (w.heap.size + 1)) w2 (.slice oa n oc) (line s.n s.owed)) := Lib.hid (HB.out.at 3 rfl rfl)
    obtain ⟨bP, oP, cP, eP, -, hcP⟩ := HRP.out.form (by rw [line_len, HN.out]; have := HPN.out; omega)
    rw [line_len, HN.out] at eP
    simp only [Value.slice.injEq] at eP
    obtain ⟨rfl, -, rfl⟩ := eP
    have dP := hcP p (by rw [line_len]; exact HPS.out)
    rw [line_at _ HPS.out, HPR.out] at dP
    obtain ⟨bO, oO, cO, eO, -, hcO⟩ := HRO.out.form (by rw [line_len, HN.out]; have := HPN.out; omega)
    rw [line_len, HN.out] at eO
    simp only [Value.slice.injEq] at eO
    obtain ⟨rfl, -, rfl⟩ := eO
    have dO := hcO p (by rw [line_len]; exact HPS.out)
    rw [line_at _ HPS.out, HOW.out] at dO
    clear hcP hcO
    go_wp2_with fail
    refine (HBIT.out w2).mono ?_
    rintro e w3 ⟨rfl, rfl⟩
    go_wp2_with (first | (refine wpList_plain rfl (fun K hK => wp_loadT aggCalm _ rfl w.heap.size [.int .i64 (n : Int), .int .i64 (m : Int), .slice (some ⟨bP, oP, none⟩) n pc, .slice (some ⟨bO, oO, none⟩) n oc, .slice wa nn wc, .int .i64 st, .bool cl] (by rfl) HB.out.ref.bB rfl ?_); refine hK _ _ ?_; clear hK) | (refine wpList_plain rfl (fun K hK => wp_storeT aggCalm _ _ rfl (w.heap.size + 1) [.int .i64 (n : Int), .int .i64 (m : Int), .slice (some ⟨bP, oP, none⟩) n pc, .slice (some ⟨bO, oO, none⟩) n oc, .slice wa nn wc, .int .i64 st, .bool cl] _ (by rfl) (by rfl) rfl HB.out.ref.bR rfl rfl ?_); intro wz hBz hcz; have HB3 := Lib.hid (HB.out.setR hBz hcz); clear hBz hcz; refine hK _ _ ?_; clear hK))
    (try simp only [Exit.inBlock, Exit.then]); refine bodyPost_ret (results_cell1 aggCalm rfl _ _ _ _ (by rfl) HB3.out.ref.bR rfl) rfl ?_
    rw [show s.rest p = s by unfold CNet.rest; rw [if_neg HWK.out, if_neg (show ¬ 0 < s.owed p by have := HO.out; omega), if_pos HPL.out]]
    exact ⟨_, rfl, HB3.out.ans⟩
  have HPL : Hid (¬ s.parent p < 0) := Lib.hid (by rw [HPR.out]; exact hpl)
  have hpd : decide (pr < 0) = false := decide_eq_false hpl
  obtain ⟨r, HRR⟩ : ∃ r : Nat, Hid (pr = r) := ⟨pr.toNat, Lib.hid (by omega)⟩
  obtain rfl := HRR.out
  clear ho hpl
  by_cases h0 : p = 0
  · have HP0 := Lib.hid h0
    have hp0 : ((p : Int) == 0) = true := by rw [h0]; rfl
    clear h0
    go_enter Tryd.func27, Tryd.ntmps27
    go_upto_region 1 with fail
    have HB := Lib.hid (Bx.start w [.int .i64 (n : Int), .int .i64 (m : Int), .slice pa n pc, .slice oa n oc, .slice wa nn wc, .int .i64 st, .bool cl] [.int .i64 0, .int .i64 0, .slice none 0 0, .slice none 0 0, .slice none 0 0, .int .i64 0, .bool false] (cf s) HU.out 31 31)
    generalize ((w.alloc _).alloc _) = w2 at *
    have q1 : w2.cell? ⟨w.heap.size, 1, none⟩ = some (.int .i64 (m : Int)) := HB.out.ref.bB.cell 1
    have q2 : w2.cell? ⟨w.heap.size, 2, none⟩ = some (.slice pa n pc) := HB.out.ref.bB.cell 2
    have q3 : w2.cell? ⟨w.heap.size, 3, none⟩ = some (.slice oa n oc) := HB.out.ref.bB.cell 3
    have HRP : Hid (Rd (In S w w.heap.size (w.heap.size + 1)) w2 (.slice pa n pc) (line s.n s.parent)) := Lib.hid (HB.out.at 2 rfl rfl)
    have HRO : Hid (Rd (In S w w.heap.size (w.heap.size + 1)) w2 (.slice oa n oc) (line s.n s.owed)) := Lib.hid (HB.out.at 3 rfl rfl)
    obtain ⟨bP, oP, cP, eP, -, hcP⟩ := HRP.out.form (by rw [line_len, HN.out]; have := HPN.out; omega)
    rw [line_len, HN.out] at eP
    simp only [Value.slice.injEq] at eP
    obtain ⟨rfl, -, rfl⟩ := eP
    have dP := hcP p (by rw [line_len]; exact HPS.out)
    rw [line_at _ HPS.out, HPR.out] at dP
    obtain ⟨bO, oO, cO, eO, -, hcO⟩ := HRO.out.form (by rw [line_len, HN.out]; have := HPN.out; omega)
    rw [line_len, HN.out] at eO
    simp only [Value.slice.injEq] at eO
    obtain ⟨rfl, -, rfl⟩ := eO
    have dO := hcO p (by rw [line_len]; exact HPS.out)
    rw [line_at _ HPS.out, HOW.out] at dO
    clear hcP hcO
    go_wp2_with fail
    refine (HBIT.out w2).mono ?_
    rintro e w3 ⟨rfl, rfl⟩
    have fz := HB.out.ref.bB.frozen 6
    have g6 : w2.cell? ⟨w.heap.size, 6, none⟩ = some (.bool cl) := HB.out.ref.bB.cell 6
    have HB5 := Lib.hid (HB.out.set 6 (.bool true) (.b true) rfl)
    go_wp2_with (first | (refine wpList_plain rfl (fun K hK => wp_loadT aggCalm _ rfl w.heap.size [.int .i64 (n : Int), .int .i64 (m : Int), .slice (some ⟨bP, oP, none⟩) n pc, .slice (some ⟨bO, oO, none⟩) n oc, .slice wa nn wc, .int .i64 st, .bool true] (by rfl) HB5.out.ref.bB rfl ?_); refine hK _ _ ?_; clear hK) | (refine wpList_plain rfl (fun K hK => wp_storeT aggCalm _ _ rfl (w.heap.size + 1) [.int .i64 (n : Int), .int .i64 (m : Int), .slice (some ⟨bP, oP, none⟩) n pc, .slice (some ⟨bO, oO, none⟩) n oc, .slice wa nn wc, .int .i64 st, .bool true] _ (by rfl) (by rfl) rfl HB5.out.ref.bR rfl rfl ?_); intro wz hBz hcz; have HB6 := Lib.hid (HB5.out.setR hBz hcz); clear hBz hcz; refine hK _ _ ?_; clear hK))
    (try simp only [Exit.inBlock, Exit.then]); refine bodyPost_ret (results_cell1 aggCalm rfl _ _ _ _ (by rfl) HB6.out.ref.bR rfl) rfl ?_
    rw [show s.rest p = { s with calm := true } by unfold CNet.rest; rw [if_neg HWK.out, if_neg (show ¬ 0 < s.owed p by have := HO.out; omega), if_neg (show ¬ s.parent p < 0 by have := HPL.out; omega), if_pos HP0.out]]
    exact ⟨_, rfl, HB6.out.ans⟩
  have HP0 : Hid (¬ p = 0) := Lib.hid h0
  have hp0 : ((p : Int) == 0) = false := by rw [beq_eq_false_iff_ne]; omega
  have HRS : Hid (r < s.n) := Lib.hid (by rw [HN.out]; omega)
  clear h0
  go_enter Tryd.func27, Tryd.ntmps27
  go_upto_region 1 with fail
  have HB := Lib.hid (Bx.start w [.int .i64 (n : Int), .int .i64 (m : Int), .slice pa n pc, .slice oa n oc, .slice wa nn wc, .int .i64 st, .bool cl] [.int .i64 0, .int .i64 0, .slice none 0 0, .slice none 0 0, .slice none 0 0, .int .i64 0, .bool false] (cf s) HU.out 31 31)
  generalize ((w.alloc _).alloc _) = w2 at *
  have q1 : w2.cell? ⟨w.heap.size, 1, none⟩ = some (.int .i64 (m : Int)) := HB.out.ref.bB.cell 1
  have q2 : w2.cell? ⟨w.heap.size, 2, none⟩ = some (.slice pa n pc) := HB.out.ref.bB.cell 2
  have q3 : w2.cell? ⟨w.heap.size, 3, none⟩ = some (.slice oa n oc) := HB.out.ref.bB.cell 3
  have HRP : Hid (Rd (In S w w.heap.size (w.heap.size + 1)) w2 (.slice pa n pc) (line s.n s.parent)) := Lib.hid (HB.out.at 2 rfl rfl)
  have HRO : Hid (Rd (In S w w.heap.size (w.heap.size + 1)) w2 (.slice oa n oc) (line s.n s.owed)) := Lib.hid (HB.out.at 3 rfl rfl)
  obtain ⟨bP, oP, cP, eP, -, hcP⟩ := HRP.out.form (by rw [line_len, HN.out]; have := HPN.out; omega)
  rw [line_len, HN.out] at eP
  simp only [Value.slice.injEq] at eP
  obtain ⟨rfl, -, rfl⟩ := eP
  have dP := hcP p (by rw [line_len]; exact HPS.out)
  rw [line_at _ HPS.out, HPR.out] at dP
  obtain ⟨bO, oO, cO, eO, -, hcO⟩ := HRO.out.form (by rw [line_len, HN.out]; have := HPN.out; omega)
  rw [line_len, HN.out] at eO
  simp only [Value.slice.injEq] at eO
  obtain ⟨rfl, -, rfl⟩ := eO
  have dO := hcO p (by rw [line_len]; exact HPS.out)
  rw [line_at _ HPS.out, HOW.out] at dO
  clear hcP hcO
  go_wp2_with fail
  refine (HBIT.out w2).mono ?_
  rintro e w3 ⟨rfl, rfl⟩
  have HSC := Lib.hid (fun wq (hq : RdS (In S w w.heap.size (w.heap.size + 1)) wq [.int .i64 (n : Int), .int .i64 (m : Int), .slice (some ⟨bP, oP, none⟩) n pc, .slice (some ⟨bO, oO, none⟩) n oc, .slice wa nn wc, .int .i64 st, .bool cl] (cf s)) => sendCalm_ref (In S w w.heap.size (w.heap.size + 1)) wq _ s hq (by have := H5.out; have := HN.out; omega) p r HPS.out HRS.out 2 (HLEN.out r HRS.out))
  go_wp2_with fail
  refine wp_region_plan (Chg NoF w2) 8 [(0,true),(1,true),(2,true),(3,true),(4,true),(5,true),(6,true),(7,false),(8,false)] mixed (by kernel_rfl) (Chg.refl _ _).drew ?_
  simp only [planOps, List.map_cons, List.map_nil, List.getElem?_cons_zero, List.getElem?_cons_succ, Option.getD_some]
  generalize hops : List.toArray _ = ops
  refine wpPlan_quiet rfl (fun _ _ _ h => h) (fun w1 hS => quiet_loadT aggCalm _ rfl w.heap.size [.int .i64 (n : Int), .int .i64 (m : Int), .slice (some ⟨bP, oP, none⟩) n pc, .slice (some ⟨bO, oO, none⟩) n oc, .slice wa nn wc, .int .i64 st, .bool cl] (by rfl) (HB.out.ref.bB.keep hS (fun h => h)) rfl) ?_
  (simp only [Act.put, List.setIfInBounds_toArray, List.set_cons_zero, List.set_cons_succ])
  iterate 6 (refine wpPlan_quiet (v := ?_) rfl (fun _ _ _ h => h) (by intro w1 hS; have s0 := hS.cell_some q2 (fun h => h); have s1 := hS.cell_some dP (fun h => h); clear hS; go_simp; with_reducible rfl) ?_; (simp only [Act.put, List.setIfInBounds_toArray, List.set_cons_zero, List.set_cons_succ]))
  refine wpPlan_loud rfl (fun K hK => ?_)
  go_simp
  refine (HSC.out w2.drew (HB.out.fld.keep ((Chg.refl NoF w2).drew) (fun _ _ h => h))).mono ?_
  rintro e w4 ⟨v4, rfl, us4, rfl, hr4, hc4⟩
  have HC4 : Hid (Chg NoF w2 w4) := Lib.hid (((Chg.refl NoF w2).drew).trans hc4)
  have HR4 := Lib.hid ((HB.out.no ((Chg.refl NoF w2).drew)).toldS hr4)
  have HB4 := Lib.hid (HB.out.no HC4.out)
  refine hK _ _ (fun _ => HC4.out) ?_
  clear hK K hr4 hc4
  (try simp only [Act.put, List.setIfInBounds_toArray, List.set_cons_zero, List.set_cons_succ])
  refine wpPlan_loud rfl (fun K hK => ?_)
  refine wp_storeT aggCalm _ _ rfl w.heap.size us4 _ (by rfl) (by rfl) HR4.out.len HB4.out.ref.bB rfl HR4.out.one ?_
  intro w5 hB5 hc5
  have HB5 := Lib.hid (HB4.out.setB hB5 hc5 HR4.out)
  refine hK _ _ (fun h => absurd rfl h) ?_
  clear hK K hB5 hc5
  (try simp only [Act.put, List.setIfInBounds_toArray, List.set_cons_zero, List.set_cons_succ])
  clear hops
  refine wpPlan_nil ?_
  clear q1 q2 q3 dP dO HB HB4 HR4 HC4 HRP HRO HSC
  obtain ⟨pa, pc, oa, oc, wa, wc, eu⟩ := cf_opn HB5.out.fld
  rw [show (s.push p r 2).n = n from HN.out, HNN.out] at eu
  rw [show setB (s.push p r 2).works n = m by rw [← HN.out]; exact HM.out, show (s.push p r 2).sent = st from HST.out, show (s.push p r 2).calm = cl from HCL.out] at eu
  subst eu
  have q2 : w5.cell? ⟨w.heap.size, 2, none⟩ = some (.slice pa n pc) := HB5.out.ref.bB.cell 2
  have HRP : Hid (Rd (In S w w.heap.size (w.heap.size + 1)) w5 (.slice pa n pc) (line s.n s.parent)) := Lib.hid (HB5.out.at (f := .l (line s.n s.parent)) 2 rfl rfl)
  go_wp2_with fail
  refine (set_ref (In S w w.heap.size (w.heap.size + 1)) _ (line s.n s.parent) p (-1) w5 HRP.out (by rw [line_len]; exact HPS.out) (by rw [line_len, HN.out]; have := H5.out; omega)).mono ?_
  rintro e w6 ⟨v6, rfl, hr6, hc6⟩
  obtain ⟨a6, c6, e6⟩ := hr6.val
  rw [List.length_set, line_len, HN.out] at e6
  subst e6
  have HX6 := Lib.hid (HB5.out.told (f := .l _) hr6)
  have HN6 := Lib.hid (HB5.out.no hc6)
  have HB6 : Hid (Bx S w (w6.setCell ⟨w.heap.size, 2, none⟩ (.slice a6 n c6)) w.heap.size (w.heap.size + 1) [.int .i64 (n : Int), .int .i64 (m : Int), .slice a6 n c6, .slice oa n oc, .slice wa nn wc, .int .i64 st, .bool cl] [.int .i64 0, .int .i64 0, .slice none 0 0, .slice none 0 0, .slice none 0 0, .int .i64 0, .bool false] (cf { s.push p r 2 with parent := put1 s.parent p (-1) })) := Lib.hid (by
    have h1 := HN6.out.set 2 _ _ HX6.out
    have h2 := cf_parent (s.push p r 2) p (-1)
    exact Eq.mp (congrArg (fun fs => Bx S w _ w.heap.size (w.heap.size + 1) _ _ fs) h2) h1)
  clear q2 hr6 hc6
  have q2 : w6.cell? ⟨w.heap.size, 2, none⟩ = some (.slice pa n pc) := HN6.out.ref.bB.cell 2
  have z2 := HN6.out.ref.bB.frozen 2
  go_wp2_with (first | (refine wpList_plain rfl (fun K hK => wp_loadT aggCalm _ rfl w.heap.size [.int .i64 (n : Int), .int .i64 (m : Int), .slice a6 n c6, .slice oa n oc, .slice wa nn wc, .int .i64 st, .bool cl] (by rfl) HB6.out.ref.bB rfl ?_); refine hK _ _ ?_; clear hK) | (refine wpList_plain rfl (fun K hK => wp_storeT aggCalm _ _ rfl (w.heap.size + 1) [.int .i64 (n : Int), .int .i64 (m : Int), .slice a6 n c6, .slice oa n oc, .slice wa nn wc, .int .i64 st, .bool cl] _ (by rfl) (by rfl) rfl HB6.out.ref.bR rfl rfl ?_); intro wz hBz hcz; have HB7 := Lib.hid (HB6.out.setR hBz hcz); clear hBz hcz; refine hK _ _ ?_; clear hK))
  (try simp only [Exit.inBlock, Exit.then]); refine bodyPost_ret (results_cell1 aggCalm rfl _ _ _ _ (by rfl) HB7.out.ref.bR rfl) rfl ?_
  rw [show s.rest p = { s.push p r 2 with parent := put1 s.parent p (-1) } by unfold CNet.rest; rw [if_neg HWK.out, if_neg (show ¬ 0 < s.owed p by have := HO.out; omega), if_neg (show ¬ s.parent p < 0 by have := HPL.out; omega), if_neg HP0.out, HPR.out, Int.toNat_natCast]]
  exact ⟨_, rfl, HB7.out.ans⟩

end Go.Proofs.YtbckjmbhipofaaaDoor
