/-
  The document's answers about the lock whose token goes from one to the next: asking, giving, bringing.
  Conditions: the answer's lists are read, and tell the program's net.
-/
import Derived.Test.YthblnljjhbdejaaDoorToN
import Derived.Test.YthblnljjhbdejaaDoorToE
import Derived.Test.YthblnljjhbdejaaDoorLoud
import Derived.Deep.DeepCutAuto
namespace Go.Proofs.YthblnljjhbdejaaDoor
open Go Go.RowKit

theorem aggToken : AggT Tryd.prog 31 8 := AggT.mk' (fun w => by kernel_rfl) Tryd.underlying31 rfl (by kernel_rfl)

theorem tf_opn {S : Nat → Prop} {w : World} {us : List Value} {s : TNet} (h : RdS S w us (tf s)) : ∃ (sa : Option Addr) (sc : Nat) (ha : Option Addr) (hc : Nat) (va : Option Addr) (vc : Nat) (qa : Option Addr) (qc : Nat) (wa : Option Addr) (wc : Nat), us = [.int .i64 (s.n : Int), .slice sa s.n sc, .slice ha s.n hc, .int .i64 s.holder, .int .i64 s.targetOf, .slice va s.n vc, .slice qa s.queue.length qc, .slice wa (s.n * s.n) wc] := by
  obtain ⟨v0, us, rfl, h0, h⟩ := h.cons_inv
  obtain ⟨v1, us, rfl, h1, h⟩ := h.cons_inv
  obtain ⟨v2, us, rfl, h2, h⟩ := h.cons_inv
  obtain ⟨v3, us, rfl, h3, h⟩ := h.cons_inv
  obtain ⟨v4, us, rfl, h4, h⟩ := h.cons_inv
  obtain ⟨v5, us, rfl, h5, h⟩ := h.cons_inv
  obtain ⟨v6, us, rfl, h6, h⟩ := h.cons_inv
  obtain ⟨v7, us, rfl, h7, h⟩ := h.cons_inv
  obtain rfl := h.nil_inv
  obtain ⟨sa, sc, rfl⟩ := Rd.val h1
  obtain ⟨ha, hc, rfl⟩ := Rd2.val h2
  obtain ⟨va, vc, rfl⟩ := Rd.val h5
  obtain ⟨qa, qc, rfl⟩ := Rd.val h6
  obtain ⟨wa, wc, rfl⟩ := Rd2.val h7
  obtain rfl := h0
  obtain rfl := h3
  obtain rfl := h4
  rw [line_len, line_len, s.hadL_len, flat_len]
  exact ⟨_, _, _, _, _, _, _, _, _, _, rfl⟩

theorem Rd.relen {S : Nat → Prop} {w : World} {a : Option Addr} {n n' c : Nat} {l : List Int} (h : Rd S w (.slice a n c) l) (e : n = n') : Rd S w (.slice a n' c) l := by subst e; exact h

def TAns (S : Nat → Prop) (w : World) (s' : TNet) (err : Int) (e : Ending) (w' : World) : Prop := ∃ v, e = .returned (.tuple #[v, .int .i64 err]) ∧ AnsF S w (tf s') v w'

theorem wrap_nat {k : Nat} (h : k ≤ 1000000) : IntKind.i64.wrap (k : Int) = k ∧ wrap64 (k : Int) = k := ⟨IntWalk.i64_in _ (by omega), IntWalk.wrap64_in _ (by omega)⟩
theorem wrap_nat2 (a b : Nat) (h : a + b ≤ 1000000) : IntKind.i64.wrap ((a : Int) + (b : Int)) = (a : Int) + b ∧ wrap64 ((a : Int) + (b : Int)) = (a : Int) + b := ⟨IntWalk.i64_in _ (by omega), IntWalk.wrap64_in _ (by omega)⟩

theorem TNet.is_in (s : TNet) (p : Int) : inB p 0 ((s.n : Int) - 1) = s.is p := rfl

/-- What the document's functions ask. -/
structure TGood (s : TNet) : Prop where
  inv : TInv s
  sane : Sane s

set_option maxHeartbeats 8000000 in
set_option maxRecDepth 100000 in
theorem ask_ref (S : Nat → Prop) (w : World) (us : List Value) (s : TNet) (h : RdS S w us (tf s)) (hs : TGood s) (p : Int) :
    Calls Tryd.prog 7 #[.agg us.toArray, .int .i64 p] w (TAns S w (s.ask p) (s.askErr p)) := by
  have h4 : s.n ≤ 4 := hs.sane.n4
  obtain ⟨sa, sc, ha, hc, va, vc, qa, qc, wa, wc, rfl⟩ := tf_opn h
  have HU := Lib.hid h
  obtain ⟨n, HN⟩ : ∃ n, Hid (s.n = n) := ⟨_, Lib.hid rfl⟩
  obtain ⟨nn, HNN⟩ : ∃ nn, Hid (n * n = nn) := ⟨_, Lib.hid rfl⟩
  obtain ⟨ho, HHO⟩ : ∃ zz, Hid (s.holder = zz) := ⟨_, Lib.hid rfl⟩
  obtain ⟨tg, HTG⟩ : ∃ zz, Hid (s.targetOf = zz) := ⟨_, Lib.hid rfl⟩
  obtain ⟨qn, HQL⟩ : ∃ zz, Hid (s.queue.length = zz) := ⟨_, Lib.hid rfl⟩
  have H5 : Hid (n ≤ 4) := Lib.hid (by rw [← HN.out]; exact h4)
  have HN25 : Hid (nn ≤ 16) := Lib.hid (by rw [← HNN.out]; exact Nat.mul_le_mul H5.out H5.out)
  rw [HN.out, HNN.out, HHO.out, HTG.out, HQL.out] at HU ⊢
  have HS := Lib.hid hs
  have hwn : wrap64 ((n : Int) - 1) = (n : Int) - 1 := IntWalk.wrap64_in _ (by have := H5.out; omega)
  clear h h4 hs
  have BAD : Hid (∀ x (w' : World), s.askErr p = x → x ≠ 0 → Bx S w w' w.heap.size (w.heap.size + 1) [.int .i64 (n : Int), .slice sa n sc, .slice ha n hc, .int .i64 ho, .int .i64 tg, .slice va n vc, .slice qa qn qc, .slice wa nn wc] [.int .i64 (n : Int), .slice sa n sc, .slice ha n hc, .int .i64 ho, .int .i64 tg, .slice va n vc, .slice qa qn qc, .slice wa nn wc] (tf s) → TAns S w (s.ask p) (s.askErr p) (.returned (.tuple #[.agg #[.int .i64 (n : Int), .slice sa n sc, .slice ha n hc, .int .i64 ho, .int .i64 tg, .slice va n vc, .slice qa qn qc, .slice wa nn wc], .int .i64 x])) w') := Lib.hid fun x w' he hx hR => by
    have h1 : s.ask p = s := by unfold TNet.ask; rw [if_neg (by rw [he]; exact hx)]
    rw [h1, he]
    exact ⟨_, rfl, hR.ans⟩
  have HIp : Hid (inB p 0 ((n : Int) - 1) = s.is p) := Lib.hid (by rw [← HN.out]; exact s.is_in p)
  cases hip : s.is p with
  | false =>
    have HE : Hid (s.askErr p = 1) := Lib.hid (by unfold TNet.askErr; rw [if_pos hip])
    rw [hip] at HIp
    clear hip
    go_enter Tryd.func7, Tryd.ntmps7
    go_wp2_with fail
    refine (ref6In_any _ _ _ _).mono ?_
    rintro e w2 ⟨rfl, rfl⟩
    rw [HIp.out]
    have HB := Lib.hid (Bx.start w [.int .i64 (n : Int), .slice sa n sc, .slice ha n hc, .int .i64 ho, .int .i64 tg, .slice va n vc, .slice qa qn qc, .slice wa nn wc] [.int .i64 0, .slice none 0 0, .slice none 0 0, .int .i64 0, .int .i64 0, .slice none 0 0, .slice none 0 0, .slice none 0 0] (tf s) HU.out 31 31)
    generalize ((w.alloc _).alloc _) = w2 at *
    go_wp2_with (first | (refine wpList_plain rfl (fun K hK => wp_loadT aggToken _ rfl w.heap.size [.int .i64 (n : Int), .slice sa n sc, .slice ha n hc, .int .i64 ho, .int .i64 tg, .slice va n vc, .slice qa qn qc, .slice wa nn wc] (by rfl) HB.out.ref.bB rfl ?_); refine hK _ _ ?_; clear hK) | (refine wpList_plain rfl (fun K hK => wp_storeT aggToken _ _ rfl (w.heap.size + 1) [.int .i64 (n : Int), .slice sa n sc, .slice ha n hc, .int .i64 ho, .int .i64 tg, .slice va n vc, .slice qa qn qc, .slice wa nn wc] _ (by rfl) (by rfl) rfl HB.out.ref.bR rfl rfl ?_); intro wz hBz hcz; have HBZ := Lib.hid (HB.out.setR hBz hcz); clear hBz hcz; refine hK _ _ ?_; clear hK))
    (try simp only [Exit.inBlock, Exit.then]); refine bodyPost_ret (results_cell2 aggToken rfl _ _ _ _ (by rfl) HBZ.out.ref.bR rfl) rfl ?_
    exact BAD.out 1 _ HE.out (by omega) HBZ.out
  | true =>
  have HOK : Hid (¬ s.is p = false) := Lib.hid (by rw [hip]; simp)
  rw [hip] at HIp
  obtain ⟨a, rfl, haa⟩ := (s.is_iff p).1 hip
  have HPS := Lib.hid haa
  have HPN : Hid (a < n) := Lib.hid (by rw [← HN.out]; exact haa)
  have han : (a : Int) < n := by have := HPN.out; omega
  clear haa hip
  obtain ⟨sv, HSV⟩ : ∃ zz, Hid (s.stOf a = zz) := ⟨_, Lib.hid rfl⟩
  obtain ⟨hv, HHV⟩ : ∃ zz, Hid (s.had a a = zz) := ⟨_, Lib.hid rfl⟩
  have hv0 : 0 ≤ hv ∧ hv ≤ 1000 := by rw [← HHV.out]; exact HS.out.sane.had a a HPS.out HPS.out
  obtain ⟨hv1, hv2⟩ := hv0
  by_cases hs0 : sv = 0
  case neg =>
    have HNZ : Hid (s.asks a = true ∨ s.inn a = true) := Lib.hid (Classical.byContradiction fun h => hs0 (by rw [← HSV.out]; exact stOf_zero.2 h))
    have HE : Hid (s.askErr a = 7) := Lib.hid (by unfold TNet.askErr; rw [if_neg HOK.out, Int.toNat_natCast, if_pos HNZ.out])
    have hsb : (sv != 0) = true := by rw [bne_iff_ne]; exact hs0
    clear hs0
    go_enter Tryd.func7, Tryd.ntmps7
    go_wp2_with fail
    refine (ref6In_any _ _ _ _).mono ?_
    rintro e w2 ⟨rfl, rfl⟩
    rw [HIp.out]
    have HB := Lib.hid (Bx.start w [.int .i64 (n : Int), .slice sa n sc, .slice ha n hc, .int .i64 ho, .int .i64 tg, .slice va n vc, .slice qa qn qc, .slice wa nn wc] [.int .i64 0, .slice none 0 0, .slice none 0 0, .int .i64 0, .int .i64 0, .slice none 0 0, .slice none 0 0, .slice none 0 0] (tf s) HU.out 31 31)
    generalize ((w.alloc _).alloc _) = w2 at *
    have q1 : w2.cell? ⟨w.heap.size, 1, none⟩ = some (.slice sa n sc) := HB.out.ref.bB.cell 1
    have HRS : Hid (Rd (In S w w.heap.size (w.heap.size + 1)) w2 (.slice sa n sc) (line s.n s.stOf)) := Lib.hid (HB.out.at (f := .l (line s.n s.stOf)) 1 rfl rfl)
    obtain ⟨bS, oS, cS, eS, -, hcS⟩ := HRS.out.form (by rw [line_len, HN.out]; have := HPN.out; omega)
    rw [line_len, HN.out] at eS
    simp only [Value.slice.injEq] at eS
    obtain ⟨rfl, -, rfl⟩ := eS
    have dS := hcS a (by rw [line_len]; exact (by rw [HN.out]; exact HPN.out))
    rw [line_at _ (show a < s.n by rw [HN.out]; exact HPN.out), HSV.out] at dS
    clear hcS
    go_wp2_with (first | (refine wpList_plain rfl (fun K hK => wp_loadT aggToken _ rfl w.heap.size [.int .i64 (n : Int), .slice (some ⟨bS, oS, none⟩) n sc, .slice ha n hc, .int .i64 ho, .int .i64 tg, .slice va n vc, .slice qa qn qc, .slice wa nn wc] (by rfl) HB.out.ref.bB rfl ?_); refine hK _ _ ?_; clear hK) | (refine wpList_plain rfl (fun K hK => wp_storeT aggToken _ _ rfl (w.heap.size + 1) [.int .i64 (n : Int), .slice (some ⟨bS, oS, none⟩) n sc, .slice ha n hc, .int .i64 ho, .int .i64 tg, .slice va n vc, .slice qa qn qc, .slice wa nn wc] _ (by rfl) (by rfl) rfl HB.out.ref.bR rfl rfl ?_); intro wz hBz hcz; have HBZ := Lib.hid (HB.out.setR hBz hcz); clear hBz hcz; refine hK _ _ ?_; clear hK))
    (try simp only [Exit.inBlock, Exit.then]); refine bodyPost_ret (results_cell2 aggToken rfl _ _ _ _ (by rfl) HBZ.out.ref.bR rfl) rfl ?_
    exact BAD.out 7 _ HE.out (by omega) HBZ.out
  case pos =>
  have HS0 : Hid (¬ (s.asks a = true ∨ s.inn a = true)) := Lib.hid (stOf_zero.1 (by rw [HSV.out]; exact hs0))
  have hsb : (sv != 0) = false := by rw [hs0]; rfl
  clear hs0
  by_cases hc1 : 1000 ≤ hv
  case pos =>
    have HE : Hid (s.askErr a = 4) := Lib.hid (by unfold TNet.askErr; rw [if_neg HOK.out, Int.toNat_natCast, if_neg HS0.out, if_pos (by rw [HHV.out]; exact hc1)])
    go_enter Tryd.func7, Tryd.ntmps7
    go_wp2_with fail
    refine (ref6In_any _ _ _ _).mono ?_
    rintro e w2 ⟨rfl, rfl⟩
    rw [HIp.out]
    have HB := Lib.hid (Bx.start w [.int .i64 (n : Int), .slice sa n sc, .slice ha n hc, .int .i64 ho, .int .i64 tg, .slice va n vc, .slice qa qn qc, .slice wa nn wc] [.int .i64 0, .slice none 0 0, .slice none 0 0, .int .i64 0, .int .i64 0, .slice none 0 0, .slice none 0 0, .slice none 0 0] (tf s) HU.out 31 31)
    generalize ((w.alloc _).alloc _) = w2 at *
    have q1 : w2.cell? ⟨w.heap.size, 1, none⟩ = some (.slice sa n sc) := HB.out.ref.bB.cell 1
    have q2 : w2.cell? ⟨w.heap.size, 2, none⟩ = some (.slice ha n hc) := HB.out.ref.bB.cell 2
    have HRS : Hid (Rd (In S w w.heap.size (w.heap.size + 1)) w2 (.slice sa n sc) (line s.n s.stOf)) := Lib.hid (HB.out.at (f := .l (line s.n s.stOf)) 1 rfl rfl)
    obtain ⟨bS, oS, cS, eS, -, hcS⟩ := HRS.out.form (by rw [line_len, HN.out]; have := HPN.out; omega)
    rw [line_len, HN.out] at eS
    simp only [Value.slice.injEq] at eS
    obtain ⟨rfl, -, rfl⟩ := eS
    have dS := hcS a (by rw [line_len]; exact (by rw [HN.out]; exact HPN.out))
    rw [line_at _ (show a < s.n by rw [HN.out]; exact HPN.out), HSV.out] at dS
    clear hcS
    have HRR : Hid (Rd2 (In S w w.heap.size (w.heap.size + 1)) w2 (.slice ha n hc) (s.hadL)) := Lib.hid (HB.out.at (f := .r (s.hadL)) 2 rfl rfl)
    obtain ⟨bR, oR, cR, uR, eR, dR, hruR, hrlR⟩ := HRR.out.at (Chg.refl NoF w2) (fun _ _ h => h) (j := a) (by rw [s.hadL_len, HN.out]; exact HPN.out)
    rw [s.hadL_len, HN.out] at eR
    simp only [Value.slice.injEq] at eR
    obtain ⟨rfl, -, rfl⟩ := eR
    rw [s.hadL_at (show a < s.n by rw [HN.out]; exact HPN.out)] at hruR hrlR
    obtain ⟨bH, oH, cH, rfl, -, hcH⟩ := hruR.form (by rw [line_len, HN.out]; have := HPN.out; omega)
    have HRU := Lib.hid (Rd.relen hruR (show (line s.n (s.had a)).length = n by rw [line_len, HN.out]))
    rw [line_len, HN.out] at dR
    have dH := hcH a (by rw [line_len, HN.out]; exact HPN.out)
    rw [line_at _ (show a < s.n by rw [HN.out]; exact HPN.out), HHV.out] at dH
    clear hcH hruR hrlR
    go_wp2_with (first | (refine wpList_plain rfl (fun K hK => wp_loadT aggToken _ rfl w.heap.size [.int .i64 (n : Int), .slice (some ⟨bS, oS, none⟩) n sc, .slice (some ⟨bR, oR, none⟩) n hc, .int .i64 ho, .int .i64 tg, .slice va n vc, .slice qa qn qc, .slice wa nn wc] (by rfl) HB.out.ref.bB rfl ?_); refine hK _ _ ?_; clear hK) | (refine wpList_plain rfl (fun K hK => wp_storeT aggToken _ _ rfl (w.heap.size + 1) [.int .i64 (n : Int), .slice (some ⟨bS, oS, none⟩) n sc, .slice (some ⟨bR, oR, none⟩) n hc, .int .i64 ho, .int .i64 tg, .slice va n vc, .slice qa qn qc, .slice wa nn wc] _ (by rfl) (by rfl) rfl HB.out.ref.bR rfl rfl ?_); intro wz hBz hcz; have HBZ := Lib.hid (HB.out.setR hBz hcz); clear hBz hcz; refine hK _ _ ?_; clear hK))
    (try simp only [Exit.inBlock, Exit.then]); refine bodyPost_ret (results_cell2 aggToken rfl _ _ _ _ (by rfl) HBZ.out.ref.bR rfl) rfl ?_
    exact BAD.out 4 _ HE.out (by omega) HBZ.out
  case neg =>
  have HE : Hid (s.askErr a = 0) := Lib.hid (by unfold TNet.askErr; rw [if_neg HOK.out, Int.toNat_natCast, if_neg HS0.out, if_neg (by rw [HHV.out]; exact hc1)])
  have HDO : Hid (s.ask a = s.ask0 a) := Lib.hid (by unfold TNet.ask; rw [if_pos HE.out, Int.toNat_natCast])
  have hc2 : hv < 1000 := by omega
  have HWH : Hid (IntKind.i64.wrap (hv + 1) = hv + 1) := Lib.hid (IntWalk.i64_in _ (by omega))
  go_enter Tryd.func7, Tryd.ntmps7
  go_wp2_with fail
  refine (ref6In_any _ _ _ _).mono ?_
  rintro e w2 ⟨rfl, rfl⟩
  rw [HIp.out]
  have HB := Lib.hid (Bx.start w [.int .i64 (n : Int), .slice sa n sc, .slice ha n hc, .int .i64 ho, .int .i64 tg, .slice va n vc, .slice qa qn qc, .slice wa nn wc] [.int .i64 0, .slice none 0 0, .slice none 0 0, .int .i64 0, .int .i64 0, .slice none 0 0, .slice none 0 0, .slice none 0 0] (tf s) HU.out 31 31)
  generalize ((w.alloc _).alloc _) = w2 at *
  have q1 : w2.cell? ⟨w.heap.size, 1, none⟩ = some (.slice sa n sc) := HB.out.ref.bB.cell 1
  have q2 : w2.cell? ⟨w.heap.size, 2, none⟩ = some (.slice ha n hc) := HB.out.ref.bB.cell 2
  have HRS : Hid (Rd (In S w w.heap.size (w.heap.size + 1)) w2 (.slice sa n sc) (line s.n s.stOf)) := Lib.hid (HB.out.at (f := .l (line s.n s.stOf)) 1 rfl rfl)
  obtain ⟨bS, oS, cS, eS, -, hcS⟩ := HRS.out.form (by rw [line_len, HN.out]; have := HPN.out; omega)
  rw [line_len, HN.out] at eS
  simp only [Value.slice.injEq] at eS
  obtain ⟨rfl, -, rfl⟩ := eS
  have dS := hcS a (by rw [line_len]; exact (by rw [HN.out]; exact HPN.out))
  rw [line_at _ (show a < s.n by rw [HN.out]; exact HPN.out), HSV.out] at dS
  clear hcS
  have HRR : Hid (Rd2 (In S w w.heap.size (w.heap.size + 1)) w2 (.slice ha n hc) (s.hadL)) := Lib.hid (HB.out.at (f := .r (s.hadL)) 2 rfl rfl)
  obtain ⟨bR, oR, cR, uR, eR, dR, hruR, hrlR⟩ := HRR.out.at (Chg.refl NoF w2) (fun _ _ h => h) (j := a) (by rw [s.hadL_len, HN.out]; exact HPN.out)
  rw [s.hadL_len, HN.out] at eR
  simp only [Value.slice.injEq] at eR
  obtain ⟨rfl, -, rfl⟩ := eR
  rw [s.hadL_at (show a < s.n by rw [HN.out]; exact HPN.out)] at hruR hrlR
  obtain ⟨bH, oH, cH, rfl, -, hcH⟩ := hruR.form (by rw [line_len, HN.out]; have := HPN.out; omega)
  have HRU := Lib.hid (Rd.relen hruR (show (line s.n (s.had a)).length = n by rw [line_len, HN.out]))
  rw [line_len, HN.out] at dR
  have dH := hcH a (by rw [line_len, HN.out]; exact HPN.out)
  rw [line_at _ (show a < s.n by rw [HN.out]; exact HPN.out), HHV.out] at dH
  clear hcH hruR hrlR
  have hwh := HWH.out
  go_wp2_with fail
  refine wp_region_plan (Chg NoF w2) 14 [(0,true),(1,true),(2,true),(3,true),(4,true),(5,true),(6,true),(7,true),(8,true),(9,true),(10,true),(11,false),(12,false),(13,true),(14,false)] mixed (by kernel_rfl) (Chg.refl _ _).drew ?_
  simp only [planOps, List.map_cons, List.map_nil, List.getElem?_cons_zero, List.getElem?_cons_succ, Option.getD_some]
  generalize hops : List.toArray _ = ops
  iterate 11 (refine wpPlan_quiet (v := ?_) rfl (fun _ _ _ h => h) (by intro w1 hS; have s0 := hS.cell_some q2 (fun h => h); have s1 := hS.cell_some dR (fun h => h); clear hS; go_simp; with_reducible rfl) ?_; (simp only [Act.put, List.setIfInBounds_toArray, List.set_cons_zero, List.set_cons_succ]))
  refine wpPlan_loud rfl (fun K hK => ?_)
  go_simp
  have HD1 := Lib.hid (HB.out.no ((Chg.refl NoF w2).drew))
  refine (set_ref (In S w w.heap.size (w.heap.size + 1)) _ (line s.n (s.had a)) a (hv + 1) _ (HRU.out.keep ((Chg.refl NoF w2).drew) (fun _ _ h => h)) (by rw [line_len, HN.out]; exact HPN.out) (by rw [line_len, HN.out]; have := H5.out; omega)).mono ?_
  rintro e x1 ⟨v1, rfl, hr1, hc1⟩
  have HL1 : Hid (((line s.n (s.had a)).set a (hv + 1)).length = n) := Lib.hid (by rw [List.length_set, line_len, HN.out])
  obtain ⟨a1, c1, e1⟩ := hr1.val
  rw [HL1.out] at e1
  subst e1
  have HC1 : Hid (Chg NoF w2 x1) := Lib.hid (((Chg.refl NoF w2).drew).trans hc1)
  have HX1 := Lib.hid (HD1.out.told (f := .l ((line s.n (s.had a)).set a (hv + 1))) hr1)
  have HK1 := Lib.hid (HB.out.no HC1.out)
  refine hK _ _ (fun _ => HC1.out) ?_
  clear hK K hr1 hc1 HD1
  (try simp only [Act.put, List.setIfInBounds_toArray, List.set_cons_zero, List.set_cons_succ])
  refine wpPlan_loud rfl (fun K hK => ?_)
  go_simp
  have HD2 := Lib.hid (HB.out.no (HC1.out))
  refine (rows_ref (In S w w.heap.size (w.heap.size + 1)) _ _ s.hadL a ((line s.n (s.had a)).set a (hv + 1)) x1 (HRR.out.keep HC1.out (fun _ _ h => h)) HX1.out (by rw [HL1.out]; have := H5.out; omega) (by rw [s.hadL_len, HN.out]; exact HPN.out) (by rw [s.hadL_len, HN.out]; have := H5.out; omega)).mono ?_
  rintro e x2 ⟨v2, rfl, hr2, hc2⟩
  have HL2 : Hid ((s.hadL.set a ((line s.n (s.had a)).set a (hv + 1))).length = n) := Lib.hid (by rw [List.length_set, s.hadL_len, HN.out])
  obtain ⟨a2, c2, e2⟩ := hr2.val
  rw [HL2.out] at e2
  subst e2
  have HC2 : Hid (Chg NoF w2 x2) := Lib.hid ((HC1.out).trans hc2)
  have HX2 := Lib.hid (HD2.out.told (f := .r (s.hadL.set a ((line s.n (s.had a)).set a (hv + 1)))) hr2)
  have HK2 := Lib.hid (HB.out.no HC2.out)
  refine hK _ _ (fun _ => HC2.out) ?_
  clear hK K hr2 hc2 HD2
  (try simp only [Act.put, List.setIfInBounds_toArray, List.set_cons_zero, List.set_cons_succ])
  (refine wpPlan_quiet (v := ?_) rfl (fun _ _ _ h => h) (by intro w1 hS; clear hS; go_simp; with_reducible rfl) ?_; (simp only [Act.put, List.setIfInBounds_toArray, List.set_cons_zero, List.set_cons_succ]))
  refine wpPlan_loud rfl (fun K hK => ?_)
  have sx : x2.cell? ⟨w.heap.size, 2, none⟩ = some (.slice (some ⟨bR, oR, none⟩) n hc) := HK2.out.ref.bB.cell 2
  have zx := HK2.out.ref.bB.frozen 2
  go_simp
  refine hK _ _ (fun h => absurd rfl h) ?_
  clear hK K
  clear hops
  refine wpPlan_nil ?_
  obtain ⟨t3, HS3⟩ : ∃ zz, Hid ({ s with had := put2 s.had a a (hv + 1) } = zz) := ⟨_, Lib.hid rfl⟩
  have HN3 : Hid (t3.n = n) := Lib.hid (by rw [← HS3.out]; exact HN.out)
  have HB3 : Hid (Bx S w (x2.setCell ⟨w.heap.size, 2, none⟩ (.slice a2 n c2)) w.heap.size (w.heap.size + 1) [.int .i64 (n : Int), .slice (some ⟨bS, oS, none⟩) n sc, .slice a2 n c2, .int .i64 ho, .int .i64 tg, .slice va n vc, .slice qa qn qc, .slice wa nn wc] [.int .i64 0, .slice none 0 0, .slice none 0 0, .int .i64 0, .int .i64 0, .slice none 0 0, .slice none 0 0, .slice none 0 0] (tf t3)) := Lib.hid (by
    have h1 := HK2.out.set 2 _ _ HX2.out
    rw [tf_had] at h1
    rw [← HS3.out]
    exact h1)
  clear sx zx HX2 HC2 HK2 HB dR dH HRR HRU HX1 HC1 HK1 q1 q2 dS hsb hwh
  generalize x2.setCell _ _ = y2 at *
  have HA1 : Hid (t3 = s.ask1 a) := Lib.hid (by rw [← HS3.out]; unfold TNet.ask1; rw [HHV.out])
  by_cases hha : ho = a
  case pos =>
    have hob : (ho == (a : Int)) = true := by rw [beq_iff_eq]; exact hha
    have HFI : Hid (s.ask a = { t3 with inn := put1 t3.inn a true }) := Lib.hid (by rw [HDO.out, HA1.out]; unfold TNet.ask0; rw [if_pos (by rw [HHO.out]; exact hha)]; rfl)
    clear hha
    have q3 : y2.cell? ⟨w.heap.size, 3, none⟩ = some (.int .i64 ho) := HB3.out.ref.bB.cell 3
    have HRL4 : Hid (Rd (In S w w.heap.size (w.heap.size + 1)) y2 (.slice (some ⟨bS, oS, none⟩) n sc) (line t3.n t3.stOf)) := Lib.hid (HB3.out.at (f := .l (line t3.n t3.stOf)) 1 rfl rfl)
    have q1 : y2.cell? ⟨w.heap.size, 1, none⟩ = some (.slice (some ⟨bS, oS, none⟩) n sc) := HB3.out.ref.bB.cell 1
    go_wp2_with fail
    refine (set_ref (In S w w.heap.size (w.heap.size + 1)) _ (line t3.n t3.stOf) a (2) y2 HRL4.out (by rw [line_len]; exact (by rw [HN3.out]; exact HPN.out)) (by rw [line_len, HN3.out]; have := H5.out; omega)).mono ?_
    rintro e x4 ⟨v4, rfl, hr4, hc4⟩
    obtain ⟨a4, c4, e4⟩ := hr4.val
    rw [List.length_set, line_len, HN3.out] at e4
    subst e4
    have HX4 := Lib.hid (HB3.out.told (f := .l _) hr4)
    have HK4 := Lib.hid (HB3.out.no hc4)
    obtain ⟨t5, HS5⟩ : ∃ zz, Hid ({ t3 with inn := put1 t3.inn a true } = zz) := ⟨_, Lib.hid rfl⟩
    have HN5 : Hid (t5.n = n) := Lib.hid (by rw [← HS5.out]; exact HN3.out)
    have HB5 : Hid (Bx S w (x4.setCell ⟨w.heap.size, 1, none⟩ (.slice a4 n c4)) w.heap.size (w.heap.size + 1) [.int .i64 (n : Int), .slice a4 n c4, .slice a2 n c2, .int .i64 ho, .int .i64 tg, .slice va n vc, .slice qa qn qc, .slice wa nn wc] [.int .i64 0, .slice none 0 0, .slice none 0 0, .int .i64 0, .int .i64 0, .slice none 0 0, .slice none 0 0, .slice none 0 0] (tf t5)) := Lib.hid (by
      have h1 := HK4.out.set 1 _ _ HX4.out
      rw [tf_in] at h1
      rw [← HS5.out]
      exact h1)
    clear hr4 hc4 HX4 HRL4 q1 q3 hob
    have q1 : x4.cell? ⟨w.heap.size, 1, none⟩ = some (.slice (some ⟨bS, oS, none⟩) n sc) := HK4.out.ref.bB.cell 1
    have z1 := HK4.out.ref.bB.frozen 1
    go_wp2_with (first | (refine wpList_plain rfl (fun K hK => wp_loadT aggToken _ rfl w.heap.size [.int .i64 (n : Int), .slice a4 n c4, .slice a2 n c2, .int .i64 ho, .int .i64 tg, .slice va n vc, .slice qa qn qc, .slice wa nn wc] (by rfl) HB5.out.ref.bB rfl ?_); refine hK _ _ ?_; clear hK) | (refine wpList_plain rfl (fun K hK => wp_storeT aggToken _ _ rfl (w.heap.size + 1) [.int .i64 (n : Int), .slice a4 n c4, .slice a2 n c2, .int .i64 ho, .int .i64 tg, .slice va n vc, .slice qa qn qc, .slice wa nn wc] _ (by rfl) (by rfl) rfl HB5.out.ref.bR rfl rfl ?_); intro wz hBz hcz; have HBZ := Lib.hid (HB5.out.setR hBz hcz); clear hBz hcz; refine hK _ _ ?_; clear hK))
    (try simp only [Exit.inBlock, Exit.then]); refine bodyPost_ret (results_cell2 aggToken rfl _ _ _ _ (by rfl) HBZ.out.ref.bR rfl) rfl ?_
    rw [HE.out, HFI.out, HS5.out]
    exact ⟨_, rfl, HBZ.out.ans⟩
  case neg =>
  have hob : (ho == (a : Int)) = false := by rw [beq_eq_false_iff_ne]; exact hha
  have HFI : Hid (s.ask a = ({ t3 with asks := put1 t3.asks a true } : TNet).bcast a (hv + 1) n) := Lib.hid (by rw [HDO.out, HA1.out]; unfold TNet.ask0; rw [if_neg (by rw [HHO.out]; exact hha), HHV.out, HN.out]; rfl)
  have HIA : Hid (t3.inn a = false) := Lib.hid (by rw [HA1.out]; show s.inn a = false; have := HS0.out; cases hx : s.inn a with | false => rfl | true => exact absurd (.inr hx) this)
  clear hha hc1
  have q3 : y2.cell? ⟨w.heap.size, 3, none⟩ = some (.int .i64 ho) := HB3.out.ref.bB.cell 3
  have HRL6 : Hid (Rd (In S w w.heap.size (w.heap.size + 1)) y2 (.slice (some ⟨bS, oS, none⟩) n sc) (line t3.n t3.stOf)) := Lib.hid (HB3.out.at (f := .l (line t3.n t3.stOf)) 1 rfl rfl)
  have q1 : y2.cell? ⟨w.heap.size, 1, none⟩ = some (.slice (some ⟨bS, oS, none⟩) n sc) := HB3.out.ref.bB.cell 1
  go_wp2_with fail
  refine (set_ref (In S w w.heap.size (w.heap.size + 1)) _ (line t3.n t3.stOf) a (1) y2 HRL6.out (by rw [line_len]; exact (by rw [HN3.out]; exact HPN.out)) (by rw [line_len, HN3.out]; have := H5.out; omega)).mono ?_
  rintro e x6 ⟨v6, rfl, hr6, hc6⟩
  obtain ⟨a6, c6, e6⟩ := hr6.val
  rw [List.length_set, line_len, HN3.out] at e6
  subst e6
  have HX6 := Lib.hid (HB3.out.told (f := .l _) hr6)
  have HK6 := Lib.hid (HB3.out.no hc6)
  obtain ⟨t7, HS7⟩ : ∃ zz, Hid ({ t3 with asks := put1 t3.asks a true } = zz) := ⟨_, Lib.hid rfl⟩
  have HN7 : Hid (t7.n = n) := Lib.hid (by rw [← HS7.out]; exact HN3.out)
  have HB7 : Hid (Bx S w (x6.setCell ⟨w.heap.size, 1, none⟩ (.slice a6 n c6)) w.heap.size (w.heap.size + 1) [.int .i64 (n : Int), .slice a6 n c6, .slice a2 n c2, .int .i64 ho, .int .i64 tg, .slice va n vc, .slice qa qn qc, .slice wa nn wc] [.int .i64 0, .slice none 0 0, .slice none 0 0, .int .i64 0, .int .i64 0, .slice none 0 0, .slice none 0 0, .slice none 0 0] (tf t7)) := Lib.hid (by
    have h1 := HK6.out.set 1 _ _ HX6.out
    rw [tf_asks _ HIA.out] at h1
    rw [← HS7.out]
    exact h1)
  clear hr6 hc6 HX6 HRL6 q1 q3 hob
  have q1 : x6.cell? ⟨w.heap.size, 1, none⟩ = some (.slice (some ⟨bS, oS, none⟩) n sc) := HK6.out.ref.bB.cell 1
  have z1 := HK6.out.ref.bB.frozen 1
  go_upto_region 13 with fail
  clear q1 z1 HK6
  generalize x6.setCell _ _ = y6 at *
  rw [HS7.out] at HFI
  have HW2 : Hid (t7.ways = s.ways) := Lib.hid (by rw [← HS7.out, HA1.out]; rfl)
  go_wp2_with fail
  go_loopw [7] (fun q wr => ∃ j : Nat, j ≤ n ∧ q = .int .i64 j ∧ ∃ (w1 : Option Addr) (w2 : Nat), Hid (Bx S w wr w.heap.size (w.heap.size + 1) [.int .i64 (n : Int), .slice a6 n c6, .slice a2 n c2, .int .i64 ho, .int .i64 tg, .slice va n vc, .slice qa qn qc, .slice w1 nn w2] [.int .i64 0, .slice none 0 0, .slice none 0 0, .int .i64 0, .int .i64 0, .slice none 0 0, .slice none 0 0, .slice none 0 0] (tf (t7.bcast a (hv + 1) j)))) (fun q _ => n - (intOf q).toNat)
  case atStart => exact ⟨0, Nat.zero_le _, rfl, _, _, Lib.hid (by rw [bcast_zero]; exact HB7.out)⟩
  case round =>
    clear HB7
    obtain ⟨j, hjn, rfl, w1, w2, HJ⟩ := hrel
    obtain ⟨s5, HS5⟩ : ∃ zz, Hid (t7.bcast a (hv + 1) j = zz) := ⟨_, Lib.hid rfl⟩
    rw [HS5.out] at HJ
    have HN5 : Hid (s5.n = n) := Lib.hid (by rw [← HS5.out]; exact HN7.out)
    have q0 : wr.cell? ⟨w.heap.size, 0, none⟩ = some (.int .i64 (n : Int)) := HJ.out.ref.bB.cell 0
    by_cases hj : j < n
    · have hj1 : (j : Int) < n := by omega
      have HJN : Hid (j + 1 ≤ n) := Lib.hid hj
      have hn4 := H5.out
      by_cases hja : j = a
      · have hjb : ((j : Int) != (a : Int)) = false := by rw [hja]; simp
        have HJ2 : Hid (Bx S w wr w.heap.size (w.heap.size + 1) [.int .i64 (n : Int), .slice a6 n c6, .slice a2 n c2, .int .i64 ho, .int .i64 tg, .slice va n vc, .slice qa qn qc, .slice w1 nn w2] [.int .i64 0, .slice none 0 0, .slice none 0 0, .int .i64 0, .int .i64 0, .slice none 0 0, .slice none 0 0, .slice none 0 0] (tf (t7.bcast a (hv + 1) (j + 1)))) := Lib.hid (by have e := bcast_skip t7 a (hv + 1); rw [hja, e]; rw [hja] at HS5; rw [HS5.out]; exact HJ.out)
        clear hj hjn hja
        go_wp2
        go_roundw
        case rel => first | exact ⟨j + 1, HJN.out, by go_num, _, _, HJ2⟩ | ((repeat apply Exists.intro); exact ⟨⟨HJN.out, by go_num, _, _, HJ2⟩, rfl⟩)
        case measure => have := HJN.out; simp [intOf]; omega
      · have hjb : ((j : Int) != (a : Int)) = true := by rw [bne_iff_ne]; omega
        have HJM : Hid (j < n) := Lib.hid hj
        have HJS : Hid (j < s5.n) := Lib.hid (by rw [HN5.out]; exact hj)
        have HAS : Hid (a < s5.n) := Lib.hid (by rw [HN5.out]; exact HPN.out)
        obtain ⟨gl, HGL⟩ : ∃ gl, Hid ((s5.ways a j).length = gl) := ⟨_, Lib.hid rfl⟩
        have HG5 : Hid (gl < 5000) := Lib.hid (by rw [← HGL.out, ← HS5.out, bcast_way, HW2.out]; have := HS.out.sane.len a j HPS.out (by rw [HN.out]; exact hj); omega)
        have HNX : Hid (s5.push a j (hv + 1) = t7.bcast a (hv + 1) (j + 1)) := Lib.hid (by rw [← HS5.out]; unfold TNet.push; rw [bcast_way]; exact bcast_push t7 a (hv + 1) hja)
        clear hj hjn hja
        obtain ⟨mm, HMM⟩ : ∃ mm, Hid (a * n = mm) := ⟨_, Lib.hid rfl⟩
        obtain ⟨ix, HIX0⟩ : ∃ ix, Hid (mm + j = ix) := ⟨_, Lib.hid rfl⟩
        have HKN : Hid (ix < nn) := Lib.hid (by rw [← HIX0.out, ← HMM.out, ← HNN.out]; exact flat_lt HPN.out HJM.out)
        have HMM2 : Hid (mm ≤ 16) := Lib.hid (by have := HIX0.out; have := HKN.out; have := HN25.out; omega)
        have HIX2 : Hid (ix ≤ 16) := Lib.hid (by have := HKN.out; have := HN25.out; omega)
        have hkn : (ix : Int) < nn := by have := HKN.out; omega
        have HIX : Hid (a * s5.n + j = ix) := Lib.hid (by rw [HN5.out, HMM.out, HIX0.out])
        have hw1 : IntKind.i64.wrap ((a : Int) * (n : Int)) = (mm : Int) := by rw [← Int.natCast_mul, HMM.out]; exact (wrap_nat (Nat.le_trans HMM2.out (by decide))).1
        have hw2 : IntKind.i64.wrap ((mm : Int) + (j : Int)) = (ix : Int) := by rw [← HIX0.out, Int.natCast_add]; exact (wrap_nat2 mm j (by rw [HIX0.out]; exact Nat.le_trans HIX2.out (by decide))).1
        have hw3 : wrap64 ((a : Int) * (n : Int)) = (mm : Int) := by rw [← Int.natCast_mul, HMM.out]; exact (wrap_nat (Nat.le_trans HMM2.out (by decide))).2
        have hw4 : wrap64 ((mm : Int) + (j : Int)) = (ix : Int) := by rw [← HIX0.out, Int.natCast_add]; exact (wrap_nat2 mm j (by rw [HIX0.out]; exact Nat.le_trans HIX2.out (by decide))).2
        have HCF := Lib.hid (tf_push s5 HJS.out (p := a) (hv + 1))
        rw [HIX.out] at HCF
        have q7 : wr.cell? ⟨w.heap.size, 7, none⟩ = some (.slice w1 nn w2) := HJ.out.ref.bB.cell 7
        have HWY : Hid (Rd2 (In S w w.heap.size (w.heap.size + 1)) wr (.slice w1 nn w2) (flat s5.n s5.ways)) := Lib.hid (HJ.out.at 7 rfl rfl)
        have HFL : Hid ((flat s5.n s5.ways).length = nn) := Lib.hid (by rw [flat_len, HN5.out, HNN.out])
        obtain ⟨bG, oG, cG, u, ev, dr, hru, hrl⟩ := HWY.out.at (Chg.refl NoF wr) (fun _ _ h => h) (j := ix) (by rw [HFL.out]; exact HKN.out)
        rw [HFL.out] at ev
        simp only [Value.slice.injEq] at ev
        obtain ⟨rfl, -, rfl⟩ := ev
        rw [← HIX.out, flat_at _ HAS.out HJS.out] at hru hrl
        have HRU := Lib.hid hru
        obtain ⟨ua, uc, rfl⟩ := hru.val
        rw [HGL.out] at dr HRU
        clear hru hrl
        have hwh := HWH.out
        go_wp2_with fail
        refine wp_region_plan (Chg NoF wr) 23 [(0,true),(1,true),(2,true),(3,true),(4,true),(5,true),(6,true),(7,true),(8,true),(9,true),(10,true),(11,true),(12,true),(13,true),(14,true),(15,true),(16,true),(17,true),(18,true),(19,true),(20,false),(21,false),(22,true),(23,false)] mixed (by kernel_rfl) (Chg.refl _ _).drew ?_
        simp only [planOps, List.map_cons, List.map_nil, List.getElem?_cons_zero, List.getElem?_cons_succ, Option.getD_some]
        generalize hops : List.toArray _ = ops
        iterate 20 (refine wpPlan_quiet (v := ?_) rfl (fun _ _ _ h => h) (by intro w1 hS; have s0 := hS.cell_some q7 (fun h => h); have s1 := hS.cell_some q0 (fun h => h); have s2 := hS.cell_some dr (fun h => h); clear hS; go_simp; with_reducible rfl) ?_; (simp only [Act.put, List.setIfInBounds_toArray, List.set_cons_zero, List.set_cons_succ]))
        refine wpPlan_loud rfl (fun K hK => ?_)
        go_simp
        have HD8 := Lib.hid (HJ.out.no ((Chg.refl NoF wr).drew))
        refine (more_ref (In S w w.heap.size (w.heap.size + 1)) _ (s5.ways a j) (hv + 1) _ (HRU.out.keep ((Chg.refl NoF wr).drew) (fun _ _ h => h)) (by rw [HGL.out]; have := HG5.out; omega)).mono ?_
        rintro e x8 ⟨v8, rfl, hr8, hc8⟩
        have HL8 : Hid ((s5.ways a j ++ [hv + 1]).length = gl + 1) := Lib.hid (by rw [List.length_append, HGL.out]; rfl)
        obtain ⟨a8, c8, e8⟩ := hr8.val
        rw [HL8.out] at e8
        subst e8
        have HC8 : Hid (Chg NoF wr x8) := Lib.hid (((Chg.refl NoF wr).drew).trans hc8)
        have HX8 := Lib.hid (HD8.out.told (f := .l (s5.ways a j ++ [hv + 1])) hr8)
        have HK8 := Lib.hid (HJ.out.no HC8.out)
        refine hK _ _ (fun _ => HC8.out) ?_
        clear hK K hr8 hc8 HD8
        (try simp only [Act.put, List.setIfInBounds_toArray, List.set_cons_zero, List.set_cons_succ])
        refine wpPlan_loud rfl (fun K hK => ?_)
        go_simp
        have HD9 := Lib.hid (HJ.out.no (HC8.out))
        refine (rows_ref (In S w w.heap.size (w.heap.size + 1)) _ _ (flat s5.n s5.ways) ix (s5.ways a j ++ [hv + 1]) x8 (HWY.out.keep HC8.out (fun _ _ h => h)) HX8.out (by rw [HL8.out]; have := HG5.out; omega) (by rw [HFL.out]; exact HKN.out) (by rw [HFL.out]; have := HN25.out; omega)).mono ?_
        rintro e x9 ⟨v9, rfl, hr9, hc9⟩
        have HL9 : Hid (((flat s5.n s5.ways).set ix (s5.ways a j ++ [hv + 1])).length = nn) := Lib.hid (by rw [List.length_set, HFL.out])
        obtain ⟨a9, c9, e9⟩ := hr9.val
        rw [HL9.out] at e9
        subst e9
        have HC9 : Hid (Chg NoF wr x9) := Lib.hid ((HC8.out).trans hc9)
        have HX9 := Lib.hid (HD9.out.told (f := .r ((flat s5.n s5.ways).set ix (s5.ways a j ++ [hv + 1]))) hr9)
        have HK9 := Lib.hid (HJ.out.no HC9.out)
        refine hK _ _ (fun _ => HC9.out) ?_
        clear hK K hr9 hc9 HD9
        (try simp only [Act.put, List.setIfInBounds_toArray, List.set_cons_zero, List.set_cons_succ])
        (refine wpPlan_quiet (v := ?_) rfl (fun _ _ _ h => h) (by intro w1 hS; clear hS; go_simp; with_reducible rfl) ?_; (simp only [Act.put, List.setIfInBounds_toArray, List.set_cons_zero, List.set_cons_succ]))
        refine wpPlan_loud rfl (fun K hK => ?_)
        have sx : x9.cell? ⟨w.heap.size, 7, none⟩ = some (.slice (some ⟨bG, oG, none⟩) nn w2) := HK9.out.ref.bB.cell 7
        have zx := HK9.out.ref.bB.frozen 7
        go_simp
        refine hK _ _ (fun h => absurd rfl h) ?_
        clear hK K
        clear hops
        refine wpPlan_nil ?_
        obtain ⟨t10, HS10⟩ : ∃ zz, Hid (s5.push a j (hv + 1) = zz) := ⟨_, Lib.hid rfl⟩
        have HN10 : Hid (t10.n = n) := Lib.hid (by rw [← HS10.out]; exact HN5.out)
        have HB10 : Hid (Bx S w (x9.setCell ⟨w.heap.size, 7, none⟩ (.slice a9 nn c9)) w.heap.size (w.heap.size + 1) [.int .i64 (n : Int), .slice a6 n c6, .slice a2 n c2, .int .i64 ho, .int .i64 tg, .slice va n vc, .slice qa qn qc, .slice a9 nn c9] [.int .i64 0, .slice none 0 0, .slice none 0 0, .int .i64 0, .int .i64 0, .slice none 0 0, .slice none 0 0, .slice none 0 0] (tf t10)) := Lib.hid (by
          have h1 := HK9.out.set 7 _ _ HX9.out
          rw [HCF.out] at h1
          rw [← HS10.out]
          exact h1)
        clear sx zx HX9 HC9 HK9 HJ q0 q7 dr HWY HX8 HC8 HK8
        generalize x9.setCell _ _ = y9 at *
        have HJ2 : Hid (Bx S w y9 w.heap.size (w.heap.size + 1) [.int .i64 (n : Int), .slice a6 n c6, .slice a2 n c2, .int .i64 ho, .int .i64 tg, .slice va n vc, .slice qa qn qc, .slice a9 nn c9] [.int .i64 0, .slice none 0 0, .slice none 0 0, .int .i64 0, .int .i64 0, .slice none 0 0, .slice none 0 0, .slice none 0 0] (tf (t7.bcast a (hv + 1) (j + 1)))) := Lib.hid (by rw [← HNX.out, HS10.out]; exact HB10.out)
        clear hw1 hw2 hw3 hw4 hkn hjb hwh
        go_wp2
        go_roundw
        case rel => first | exact ⟨j + 1, HJN.out, by go_num, _, _, HJ2⟩ | ((repeat apply Exists.intro); exact ⟨⟨HJN.out, by go_num, _, _, HJ2⟩, rfl⟩)
        case measure => have := HJN.out; simp [intOf]; omega
    · obtain rfl : n = j := by omega
      have hj1 : ¬ (n : Int) < n := by omega
      clear hj hjn
      go_wp2_with (first | (refine wpList_plain rfl (fun K hK => wp_loadT aggToken _ rfl w.heap.size [.int .i64 (n : Int), .slice a6 n c6, .slice a2 n c2, .int .i64 ho, .int .i64 tg, .slice va n vc, .slice qa qn qc, .slice w1 nn w2] (by rfl) HJ.out.ref.bB rfl ?_); refine hK _ _ ?_; clear hK) | (refine wpList_plain rfl (fun K hK => wp_storeT aggToken _ _ rfl (w.heap.size + 1) [.int .i64 (n : Int), .slice a6 n c6, .slice a2 n c2, .int .i64 ho, .int .i64 tg, .slice va n vc, .slice qa qn qc, .slice w1 nn w2] _ (by rfl) (by rfl) rfl HJ.out.ref.bR rfl rfl ?_); intro wz hBz hcz; have HBZ := Lib.hid (HJ.out.setR hBz hcz); clear hBz hcz; refine hK _ _ ?_; clear hK))
      (try simp only [Exit.inBlock, Exit.then]); refine bodyPost_ret (results_cell2 aggToken rfl _ _ _ _ (by rfl) HBZ.out.ref.bR rfl) rfl ?_
      rw [HE.out, HFI.out, HS5.out]
      exact ⟨_, rfl, HBZ.out.ans⟩

set_option maxHeartbeats 8000000 in
set_option maxRecDepth 100000 in
theorem give_ref (S : Nat → Prop) (w : World) (us : List Value) (s : TNet) (h : RdS S w us (tf s)) (hn4 : s.n ≤ 4) (hq5 : s.queue.length ≤ 1000) :
    Calls Tryd.prog 27 #[.agg us.toArray] w (fun e w' => ∃ v, e = .returned v ∧ AnsF S w (tf s.give) v w') := by
  have h4 : s.n ≤ 4 := hn4
  obtain ⟨sa, sc, ha, hc, va, vc, qa, qc, wa, wc, rfl⟩ := tf_opn h
  have HU := Lib.hid h
  obtain ⟨n, HN⟩ : ∃ n, Hid (s.n = n) := ⟨_, Lib.hid rfl⟩
  obtain ⟨nn, HNN⟩ : ∃ nn, Hid (n * n = nn) := ⟨_, Lib.hid rfl⟩
  obtain ⟨ho, HHO⟩ : ∃ zz, Hid (s.holder = zz) := ⟨_, Lib.hid rfl⟩
  obtain ⟨tg, HTG⟩ : ∃ zz, Hid (s.targetOf = zz) := ⟨_, Lib.hid rfl⟩
  obtain ⟨qn, HQL⟩ : ∃ zz, Hid (s.queue.length = zz) := ⟨_, Lib.hid rfl⟩
  have H5 : Hid (n ≤ 4) := Lib.hid (by rw [← HN.out]; exact h4)
  have HN25 : Hid (nn ≤ 16) := Lib.hid (by rw [← HNN.out]; exact Nat.mul_le_mul H5.out H5.out)
  rw [HN.out, HNN.out, HHO.out, HTG.out, HQL.out] at HU ⊢
  have HQB : Hid (qn ≤ 1000) := Lib.hid (by rw [← HQL.out]; exact hq5)
  clear h h4 hn4 hq5
  cases hqq : s.queue with
  | nil =>
    have HGV : Hid (s.give = s) := Lib.hid (give_nil hqq)
    obtain rfl : 0 = qn := by rw [← HQL.out, hqq]; rfl
    clear hqq
    go_enter Tryd.func27, Tryd.ntmps27
    go_upto_region 1 with fail
    have HB := Lib.hid (Bx.start w [.int .i64 (n : Int), .slice sa n sc, .slice ha n hc, .int .i64 ho, .int .i64 tg, .slice va n vc, .slice qa 0 qc, .slice wa nn wc] [.int .i64 0, .slice none 0 0, .slice none 0 0, .int .i64 0, .int .i64 0, .slice none 0 0, .slice none 0 0, .slice none 0 0] (tf s) HU.out 31 31)
    generalize ((w.alloc _).alloc _) = w2 at *
    have q6 : w2.cell? ⟨w.heap.size, 6, none⟩ = some (.slice qa 0 qc) := HB.out.ref.bB.cell 6
    go_wp2_with (first | (refine wpList_plain rfl (fun K hK => wp_loadT aggToken _ rfl w.heap.size [.int .i64 (n : Int), .slice sa n sc, .slice ha n hc, .int .i64 ho, .int .i64 tg, .slice va n vc, .slice qa 0 qc, .slice wa nn wc] (by rfl) HB.out.ref.bB rfl ?_); refine hK _ _ ?_; clear hK) | (refine wpList_plain rfl (fun K hK => wp_storeT aggToken _ _ rfl (w.heap.size + 1) [.int .i64 (n : Int), .slice sa n sc, .slice ha n hc, .int .i64 ho, .int .i64 tg, .slice va n vc, .slice qa 0 qc, .slice wa nn wc] _ (by rfl) (by rfl) rfl HB.out.ref.bR rfl rfl ?_); intro wz hBz hcz; have HBZ := Lib.hid (HB.out.setR hBz hcz); clear hBz hcz; refine hK _ _ ?_; clear hK))
    (try simp only [Exit.inBlock, Exit.then]); refine bodyPost_ret (results_cell1 aggToken rfl _ _ _ _ (by rfl) HBZ.out.ref.bR rfl) rfl ?_
    rw [HGV.out]
    exact ⟨_, rfl, HBZ.out.ans⟩
  | cons x l =>
  have HGV := Lib.hid (tf_give hqq)
  obtain ⟨tl, HTL⟩ : ∃ zz, Hid (l.length = zz) := ⟨_, Lib.hid rfl⟩
  obtain rfl : tl + 1 = qn := by rw [← HQL.out, hqq, List.length_cons, HTL.out]
  have HQE := Lib.hid hqq
  have hq1 : (0 : Int) < (tl : Int) + 1 := by omega
  have hq2 : (1 : Int) ≤ (tl : Int) + 1 := by omega
  have htb : tl < 1000 := by have := HQB.out; omega
  clear hqq
  go_enter Tryd.func27, Tryd.ntmps27
  go_upto_region 1 with fail
  have HB := Lib.hid (Bx.start w [.int .i64 (n : Int), .slice sa n sc, .slice ha n hc, .int .i64 ho, .int .i64 tg, .slice va n vc, .slice qa (tl + 1) qc, .slice wa nn wc] [.int .i64 0, .slice none 0 0, .slice none 0 0, .int .i64 0, .int .i64 0, .slice none 0 0, .slice none 0 0, .slice none 0 0] (tf s) HU.out 31 31)
  generalize ((w.alloc _).alloc _) = w2 at *
  have q6 : w2.cell? ⟨w.heap.size, 6, none⟩ = some (.slice qa (tl + 1) qc) := HB.out.ref.bB.cell 6
  have HRQ : Hid (Rd (In S w w.heap.size (w.heap.size + 1)) w2 (.slice qa (tl + 1) qc) (x :: l)) := Lib.hid (by rw [← HQE.out]; exact HB.out.at (f := .l s.queue) 6 rfl rfl)
  obtain ⟨bQ, oQ, cQ, eQ, hQS, hcap, hcQ⟩ := HRQ.out.formC (by simp)
  rw [show (x :: l).length = tl + 1 by rw [List.length_cons, HTL.out]] at eQ hcap
  simp only [Value.slice.injEq] at eQ
  obtain ⟨rfl, -, rfl⟩ := eQ
  have dQ := hcQ 0 (by simp)
  rw [show (x :: l).getD 0 0 = x from rfl, Nat.add_zero] at dQ
  obtain ⟨off, hoff, hoff2⟩ := tail_off2 bQ oQ qc tl hcap
  have HTA : Hid (RdF (In S w w.heap.size (w.heap.size + 1)) w2 (.slice (some ⟨bQ, off, none⟩) tl (qc - 1)) (.l l)) := Lib.hid (Rd.tail2 HRQ.out HTL.out hoff2)
  have hcap2 : (tl : Int) + 1 ≤ qc := by omega
  have HQS2 : Hid (bQ ≠ w.heap.size) := Lib.hid (HB.out.notB _ hQS).1
  clear hcQ hcap hoff2 hQS
  have q3 : w2.cell? ⟨w.heap.size, 3, none⟩ = some (.int .i64 ho) := HB.out.ref.bB.cell 3
  have z3 := HB.out.ref.bB.frozen 3
  have HB3 := Lib.hid (HB.out.set 3 (.int .i64 (-1)) (.i (-1)) rfl)
  have hc3 := setCell_chg w2 ⟨w.heap.size, 3, none⟩ (.int .i64 (-1))
  have dQ3 := hc3.cell_some dQ HQS2.out
  have HT3 := Lib.hid (HTA.out.keep hc3 (fun b hb e => (HB.out.notB b hb).1 e))
  clear hc3
  go_upto_region 3 with fail
  clear q3 z3 q6 dQ HB HRQ HTA
  generalize w2.setCell _ _ = w3 at *
  have q6 : w3.cell? ⟨w.heap.size, 6, none⟩ = some (.slice (some ⟨bQ, oQ, none⟩) (tl + 1) qc) := HB3.out.ref.bB.cell 6
  have q4 : w3.cell? ⟨w.heap.size, 4, none⟩ = some (.int .i64 tg) := HB3.out.ref.bB.cell 4
  have z4 := HB3.out.ref.bB.frozen 4
  have HB4 := Lib.hid (HB3.out.set 4 (.int .i64 x) (.i x) rfl)
  have hc4 := setCell_chg w3 ⟨w.heap.size, 4, none⟩ (.int .i64 x)
  have HT4 := Lib.hid (HT3.out.keep hc4 (fun b hb e => (HB3.out.notB b hb).1 e))
  clear hc4
  go_upto_region 4 with fail
  clear q4 z4 q6 dQ3 HB3 HT3
  generalize w3.setCell _ _ = w4 at *
  have q6 : w4.cell? ⟨w.heap.size, 6, none⟩ = some (.slice (some ⟨bQ, oQ, none⟩) (tl + 1) qc) := HB4.out.ref.bB.cell 6
  have z6 := HB4.out.ref.bB.frozen 6
  have HB5 : Hid (Bx S w (w4.setCell ⟨w.heap.size, 6, none⟩ (.slice (some ⟨bQ, off, none⟩) tl (qc - 1))) w.heap.size (w.heap.size + 1) [.int .i64 (n : Int), .slice sa n sc, .slice ha n hc, .int .i64 (-1), .int .i64 x, .slice va n vc, .slice (some ⟨bQ, off, none⟩) tl (qc - 1), .slice wa nn wc] [.int .i64 0, .slice none 0 0, .slice none 0 0, .int .i64 0, .int .i64 0, .slice none 0 0, .slice none 0 0, .slice none 0 0] (tf s.give)) := Lib.hid (by rw [← HGV.out]; exact HB4.out.set 6 _ _ HT4.out)
  go_wp2_with (first | (refine wpList_plain rfl (fun K hK => wp_loadT aggToken _ rfl w.heap.size [.int .i64 (n : Int), .slice sa n sc, .slice ha n hc, .int .i64 (-1), .int .i64 x, .slice va n vc, .slice (some ⟨bQ, off, none⟩) tl (qc - 1), .slice wa nn wc] (by rfl) HB5.out.ref.bB rfl ?_); refine hK _ _ ?_; clear hK) | (refine wpList_plain rfl (fun K hK => wp_storeT aggToken _ _ rfl (w.heap.size + 1) [.int .i64 (n : Int), .slice sa n sc, .slice ha n hc, .int .i64 (-1), .int .i64 x, .slice va n vc, .slice (some ⟨bQ, off, none⟩) tl (qc - 1), .slice wa nn wc] _ (by rfl) (by rfl) rfl HB5.out.ref.bR rfl rfl ?_); intro wz hBz hcz; have HBZ := Lib.hid (HB5.out.setR hBz hcz); clear hBz hcz; refine hK _ _ ?_; clear hK))
  (try simp only [Exit.inBlock, Exit.then]); refine bodyPost_ret (results_cell1 aggToken rfl _ _ _ _ (by rfl) HBZ.out.ref.bR rfl) rfl ?_
  exact ⟨_, rfl, HBZ.out.ans⟩

set_option maxHeartbeats 8000000 in
set_option maxRecDepth 100000 in
theorem bring_ref (S : Nat → Prop) (w : World) (us : List Value) (s : TNet) (h : RdS S w us (tf s)) (hs : TGood s) :
    Calls Tryd.prog 13 #[.agg us.toArray] w (TAns S w s.bring s.bringErr) := by
  have h4 : s.n ≤ 4 := hs.sane.n4
  obtain ⟨sa, sc, ha, hc, va, vc, qa, qc, wa, wc, rfl⟩ := tf_opn h
  have HU := Lib.hid h
  obtain ⟨n, HN⟩ : ∃ n, Hid (s.n = n) := ⟨_, Lib.hid rfl⟩
  obtain ⟨nn, HNN⟩ : ∃ nn, Hid (n * n = nn) := ⟨_, Lib.hid rfl⟩
  obtain ⟨ho, HHO⟩ : ∃ zz, Hid (s.holder = zz) := ⟨_, Lib.hid rfl⟩
  obtain ⟨tg, HTG⟩ : ∃ zz, Hid (s.targetOf = zz) := ⟨_, Lib.hid rfl⟩
  obtain ⟨qn, HQL⟩ : ∃ zz, Hid (s.queue.length = zz) := ⟨_, Lib.hid rfl⟩
  have H5 : Hid (n ≤ 4) := Lib.hid (by rw [← HN.out]; exact h4)
  have HN25 : Hid (nn ≤ 16) := Lib.hid (by rw [← HNN.out]; exact Nat.mul_le_mul H5.out H5.out)
  rw [HN.out, HNN.out, HHO.out, HTG.out, HQL.out] at HU ⊢
  have HS := Lib.hid hs
  have hwn : wrap64 ((n : Int) - 1) = (n : Int) - 1 := IntWalk.wrap64_in _ (by have := H5.out; omega)
  clear h h4 hs
  have BAD : Hid (∀ x (w' : World), s.bringErr = x → x ≠ 0 → Bx S w w' w.heap.size (w.heap.size + 1) [.int .i64 (n : Int), .slice sa n sc, .slice ha n hc, .int .i64 ho, .int .i64 tg, .slice va n vc, .slice qa qn qc, .slice wa nn wc] [.int .i64 (n : Int), .slice sa n sc, .slice ha n hc, .int .i64 ho, .int .i64 tg, .slice va n vc, .slice qa qn qc, .slice wa nn wc] (tf s) → TAns S w (s.bring) (s.bringErr) (.returned (.tuple #[.agg #[.int .i64 (n : Int), .slice sa n sc, .slice ha n hc, .int .i64 ho, .int .i64 tg, .slice va n vc, .slice qa qn qc, .slice wa nn wc], .int .i64 x])) w') := Lib.hid fun x w' he hx hR => by
    have h1 : s.bring = s := by unfold TNet.bring; rw [if_neg (by rw [he]; exact hx)]
    rw [h1, he]
    exact ⟨_, rfl, hR.ans⟩
  by_cases hh0 : 0 ≤ ho
  case pos =>
    have HE : Hid (s.bringErr = 5) := Lib.hid (by unfold TNet.bringErr; rw [if_pos (by rw [HHO.out]; exact hh0)])
    go_enter Tryd.func13, Tryd.ntmps13
    go_upto_region 1 with fail
    have HB := Lib.hid (Bx.start w [.int .i64 (n : Int), .slice sa n sc, .slice ha n hc, .int .i64 ho, .int .i64 tg, .slice va n vc, .slice qa qn qc, .slice wa nn wc] [.int .i64 0, .slice none 0 0, .slice none 0 0, .int .i64 0, .int .i64 0, .slice none 0 0, .slice none 0 0, .slice none 0 0] (tf s) HU.out 31 31)
    generalize ((w.alloc _).alloc _) = w2 at *
    have q3 : w2.cell? ⟨w.heap.size, 3, none⟩ = some (.int .i64 ho) := HB.out.ref.bB.cell 3
    go_wp2_with (first | (refine wpList_plain rfl (fun K hK => wp_loadT aggToken _ rfl w.heap.size [.int .i64 (n : Int), .slice sa n sc, .slice ha n hc, .int .i64 ho, .int .i64 tg, .slice va n vc, .slice qa qn qc, .slice wa nn wc] (by rfl) HB.out.ref.bB rfl ?_); refine hK _ _ ?_; clear hK) | (refine wpList_plain rfl (fun K hK => wp_storeT aggToken _ _ rfl (w.heap.size + 1) [.int .i64 (n : Int), .slice sa n sc, .slice ha n hc, .int .i64 ho, .int .i64 tg, .slice va n vc, .slice qa qn qc, .slice wa nn wc] _ (by rfl) (by rfl) rfl HB.out.ref.bR rfl rfl ?_); intro wz hBz hcz; have HBZ := Lib.hid (HB.out.setR hBz hcz); clear hBz hcz; refine hK _ _ ?_; clear hK))
    (try simp only [Exit.inBlock, Exit.then]); refine bodyPost_ret (results_cell2 aggToken rfl _ _ _ _ (by rfl) HBZ.out.ref.bR rfl) rfl ?_
    exact BAD.out 5 _ HE.out (by omega) HBZ.out
  case neg =>
  have HE : Hid (s.bringErr = 0) := Lib.hid (by unfold TNet.bringErr; rw [if_neg (by rw [HHO.out]; exact hh0)])
  have HDO : Hid (s.bring = s.bring0) := Lib.hid (by unfold TNet.bring; rw [if_pos HE.out])
  have HNEG : Hid (s.holder < 0) := Lib.hid (by rw [HHO.out]; omega)
  obtain ⟨k, HTK, HKN0⟩ : ∃ k : Nat, Hid (s.target = k) ∧ Hid (k < n) := by
    rcases HS.out.sane.hold with ⟨_, k, h1, h2⟩ | ⟨k, h1, _⟩
    · exact ⟨k, Lib.hid h1, Lib.hid (by rw [← HN.out]; exact h2)⟩
    · have := HNEG.out; omega
  have HBR := Lib.hid (tf_bring HTK.out HNEG.out)
  have HTGK : Hid (tg = (k : Int)) := Lib.hid (by rw [← HTG.out]; unfold TNet.targetOf; rw [if_pos HNEG.out, HTK.out])
  obtain rfl := HTGK.out
  rw [HTG.out] at HBR
  go_enter Tryd.func13, Tryd.ntmps13
  go_upto_region 1 with fail
  have HB := Lib.hid (Bx.start w [.int .i64 (n : Int), .slice sa n sc, .slice ha n hc, .int .i64 ho, .int .i64 (k : Int), .slice va n vc, .slice qa qn qc, .slice wa nn wc] [.int .i64 0, .slice none 0 0, .slice none 0 0, .int .i64 0, .int .i64 0, .slice none 0 0, .slice none 0 0, .slice none 0 0] (tf s) HU.out 31 31)
  generalize ((w.alloc _).alloc _) = w2 at *
  have q3 : w2.cell? ⟨w.heap.size, 3, none⟩ = some (.int .i64 ho) := HB.out.ref.bB.cell 3
  have q4 : w2.cell? ⟨w.heap.size, 4, none⟩ = some (.int .i64 (k : Int)) := HB.out.ref.bB.cell 4
  have z3 := HB.out.ref.bB.frozen 3
  have HB3 := Lib.hid (HB.out.set 3 (.int .i64 (k : Int)) (.i (k : Int)) rfl)
  go_upto_region 4 with fail
  clear q3 z3 q4 HB
  generalize w2.setCell _ _ = w3 at *
  have q4 : w3.cell? ⟨w.heap.size, 4, none⟩ = some (.int .i64 (k : Int)) := HB3.out.ref.bB.cell 4
  have z4 := HB3.out.ref.bB.frozen 4
  have HB4 := Lib.hid (HB3.out.set 4 (.int .i64 (-1)) (.i (-1)) rfl)
  go_upto_region 5 with fail
  clear q4 z4 HB3
  generalize w3.setCell _ _ = w4 at *
  have q3 : w4.cell? ⟨w.heap.size, 3, none⟩ = some (.int .i64 (k : Int)) := HB4.out.ref.bB.cell 3
  have q1 : w4.cell? ⟨w.heap.size, 1, none⟩ = some (.slice sa n sc) := HB4.out.ref.bB.cell 1
  have HRL : Hid (Rd (In S w w.heap.size (w.heap.size + 1)) w4 (.slice sa n sc) (line s.n s.stOf)) := Lib.hid (HB4.out.at (f := .l (line s.n s.stOf)) 1 rfl rfl)
  go_wp2_with fail
  refine (set_ref (In S w w.heap.size (w.heap.size + 1)) _ (line s.n s.stOf) k 2 w4 HRL.out (by rw [line_len, HN.out]; exact HKN0.out) (by rw [line_len, HN.out]; have := H5.out; omega)).mono ?_
  rintro e w5 ⟨v5, rfl, hr5, hc5⟩
  obtain ⟨a5, c5, e5⟩ := hr5.val
  rw [List.length_set, line_len, HN.out] at e5
  subst e5
  have HX5 := Lib.hid (HB4.out.told (f := .l _) hr5)
  have HN5 := Lib.hid (HB4.out.no hc5)
  have HB5 : Hid (Bx S w (w5.setCell ⟨w.heap.size, 1, none⟩ (.slice a5 n c5)) w.heap.size (w.heap.size + 1) [.int .i64 (n : Int), .slice a5 n c5, .slice ha n hc, .int .i64 (k : Int), .int .i64 (-1), .slice va n vc, .slice qa qn qc, .slice wa nn wc] [.int .i64 0, .slice none 0 0, .slice none 0 0, .int .i64 0, .int .i64 0, .slice none 0 0, .slice none 0 0, .slice none 0 0] (tf s.bring0)) := Lib.hid (by rw [← HBR.out]; exact HN5.out.set 1 _ _ HX5.out)
  clear hr5 hc5 q1 q3 HRL
  have q1 : w5.cell? ⟨w.heap.size, 1, none⟩ = some (.slice sa n sc) := HN5.out.ref.bB.cell 1
  have z1 := HN5.out.ref.bB.frozen 1
  go_wp2_with (first | (refine wpList_plain rfl (fun K hK => wp_loadT aggToken _ rfl w.heap.size [.int .i64 (n : Int), .slice a5 n c5, .slice ha n hc, .int .i64 (k : Int), .int .i64 (-1), .slice va n vc, .slice qa qn qc, .slice wa nn wc] (by rfl) HB5.out.ref.bB rfl ?_); refine hK _ _ ?_; clear hK) | (refine wpList_plain rfl (fun K hK => wp_storeT aggToken _ _ rfl (w.heap.size + 1) [.int .i64 (n : Int), .slice a5 n c5, .slice ha n hc, .int .i64 (k : Int), .int .i64 (-1), .slice va n vc, .slice qa qn qc, .slice wa nn wc] _ (by rfl) (by rfl) rfl HB5.out.ref.bR rfl rfl ?_); intro wz hBz hcz; have HBZ := Lib.hid (HB5.out.setR hBz hcz); clear hBz hcz; refine hK _ _ ?_; clear hK))
  (try simp only [Exit.inBlock, Exit.then]); refine bodyPost_ret (results_cell2 aggToken rfl _ _ _ _ (by rfl) HBZ.out.ref.bR rfl) rfl ?_
  rw [HE.out, HDO.out]
  exact ⟨_, rfl, HBZ.out.ans⟩

end Go.Proofs.YthblnljjhbdejaaDoor
