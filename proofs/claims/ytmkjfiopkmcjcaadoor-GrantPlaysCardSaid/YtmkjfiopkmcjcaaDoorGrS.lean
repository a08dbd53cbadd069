/-
  The document's answers about the lock for which one asks all others: asking and leaving.
  Conditions: the answer's lists are read, and tell the program's net.
-/
import Derived.Test.YtmkjfiopkmcjcaaDoorGrR
namespace Go.Proofs.YtmkjfiopkmcjcaaDoor
open Go Go.RowKit

theorem GNet.is_in (s : GNet) (p : Int) : inB p 0 ((s.n : Int) - 1) = s.is p := rfl

set_option maxHeartbeats 8000000 in
set_option maxRecDepth 100000 in
theorem ask_ref (S : Nat → Prop) (w : World) (us : List Value) (s : GNet) (h : RdS S w us (gf s)) (hs : Sane s) (p : Int) :
    Calls Tryd.prog 7 #[.agg us.toArray, .int .i64 p] w (GAns S w (s.ask p) (s.askErr p)) := by
  have h4 := hs.n4
  obtain ⟨sa, sc, ka, kc, ta, tc, ga, gc, ha, hc, wa, wc, rfl⟩ := gf_opn h
  have HU := Lib.hid h
  obtain ⟨n, HN⟩ : ∃ n, Hid (s.n = n) := ⟨_, Lib.hid rfl⟩
  obtain ⟨nn, HNN⟩ : ∃ nn, Hid (n * n = nn) := ⟨_, Lib.hid rfl⟩
  have H5 : Hid (n ≤ 4) := Lib.hid (by rw [← HN.out]; exact h4)
  have HN25 : Hid (nn ≤ 16) := Lib.hid (by rw [← HNN.out]; exact Nat.mul_le_mul H5.out H5.out)
  rw [HN.out, HNN.out] at HU ⊢
  have HS := Lib.hid hs
  have hwn : wrap64 ((n : Int) - 1) = (n : Int) - 1 := IntWalk.wrap64_in _ (by have := H5.out; omega)
  clear h h4 hs
  have BAD : Hid (∀ x (w' : World), s.askErr p = x → x ≠ 0 → Bx S w w' w.heap.size (w.heap.size + 1) [.int .i64 (n : Int), .slice sa n sc, .slice ka n kc, .slice ta n tc, .slice ga n gc, .slice ha n hc, .slice wa nn wc] [.int .i64 (n : Int), .slice sa n sc, .slice ka n kc, .slice ta n tc, .slice ga n gc, .slice ha n hc, .slice wa nn wc] (gf s) → GAns S w (s.ask p) (s.askErr p) (.returned (.tuple #[.agg #[.int .i64 (n : Int), .slice sa n sc, .slice ka n kc, .slice ta n tc, .slice ga n gc, .slice ha n hc, .slice wa nn wc], .int .i64 x])) w') := Lib.hid fun x w' he hx hR => by
    have h1 : s.ask p = s := by unfold GNet.ask; rw [if_neg (by rw [he]; exact hx)]
    rw [h1, he]
    exact ⟨_, rfl, hR.ans⟩
  have HIp : Hid (inB p 0 ((n : Int) - 1) = s.is p) := Lib.hid (by rw [← HN.out]; exact s.is_in p)
  cases hip : s.is p with
  | false =>
    have HE : Hid (s.askErr p = 1) := Lib.hid (by unfold GNet.askErr; rw [if_pos hip])
    rw [hip] at HIp
    clear hip
    go_enter Tryd.func7, Tryd.ntmps7
    go_wp2_with fail
    refine (ref6In_any _ _ _ _).mono ?_
    rintro e w2 ⟨rfl, rfl⟩
    rw [HIp.out]
    have HB := Lib.hid (Bx.start w [.int .i64 (n : Int), .slice sa n sc, .slice ka n kc, .slice ta n tc, .slice ga n gc, .slice ha n hc, .slice wa nn wc] [.int .i64 0, .slice none 0 0, .slice none 0 0, .slice none 0 0, .slice none 0 0, .slice none 0 0, .slice none 0 0] (gf s) HU.out 31 31)
    generalize ((w.alloc _).alloc _) = w2 at *
    go_wp2_with (first | (refine wpList_plain rfl (fun K hK => wp_loadT aggGrant _ rfl w.heap.size [.int .i64 (n : Int), .slice sa n sc, .slice ka n kc, .slice ta n tc, .slice ga n gc, .slice ha n hc, .slice wa nn wc] (by rfl) HB.out.ref.bB rfl ?_); refine hK _ _ ?_; clear hK) | (refine wpList_plain rfl (fun K hK => wp_storeT aggGrant _ _ rfl (w.heap.size + 1) [.int .i64 (n : Int), .slice sa n sc, .slice ka n kc, .slice ta n tc, .slice ga n gc, .slice ha n hc, .slice wa nn wc] _ (by rfl) (by rfl) rfl HB.out.ref.bR rfl rfl ?_); intro wz hBz hcz; have HBZ := Lib.hid (HB.out.setR hBz hcz); clear hBz hcz; refine hK _ _ ?_; clear hK))
    (try simp only [Exit.inBlock, Exit.then]); refine bodyPost_ret (results_cell2 aggGrant rfl _ _ _ _ (by rfl) HBZ.out.ref.bR rfl) rfl ?_
    exact BAD.out 1 _ HE.out (by omega) HBZ.out
  | true =>
  have HOK : Hid (¬ s.is p = false) := Lib.hid (by rw [hip]; simp)
  rw [hip] at HIp
  obtain ⟨a, rfl, haa⟩ := (s.is_iff p).1 hip
  have HPS := Lib.hid haa
  have HPN : Hid (a < n) := Lib.hid (by rw [← HN.out]; exact haa)
  have han : (a : Int) < n := by have := HPN.out; omega
  clear haa hip
  obtain ⟨sv, HSV⟩ : ∃ x, Hid (s.st a = x) := ⟨_, Lib.hid rfl⟩
  obtain ⟨ck, HCK⟩ : ∃ x, Hid (s.ck a = x) := ⟨_, Lib.hid rfl⟩
  have hck0 : 0 ≤ ck := by rw [← HCK.out]; exact HS.out.ck a HPS.out
  by_cases hs0 : sv = 0
  case neg =>
    have HE : Hid (s.askErr a = 7) := Lib.hid (by unfold GNet.askErr; rw [if_neg HOK.out, Int.toNat_natCast, if_pos (by rw [HSV.out]; exact hs0)])
    have hsb : (sv != 0) = true := by rw [bne_iff_ne]; exact hs0
    clear hs0
    go_enter Tryd.func7, Tryd.ntmps7
    go_wp2_with fail
    refine (ref6In_any _ _ _ _).mono ?_
    rintro e w2 ⟨rfl, rfl⟩
    rw [HIp.out]
    have HB := Lib.hid (Bx.start w [.int .i64 (n : Int), .slice sa n sc, .slice ka n kc, .slice ta n tc, .slice ga n gc, .slice ha n hc, .slice wa nn wc] [.int .i64 0, .slice none 0 0, .slice none 0 0, .slice none 0 0, .slice none 0 0, .slice none 0 0, .slice none 0 0] (gf s) HU.out 31 31)
    generalize ((w.alloc _).alloc _) = w2 at *
    have q1 : w2.cell? ⟨w.heap.size, 1, none⟩ = some (.slice sa n sc) := HB.out.ref.bB.cell 1
    have HRS : Hid (Rd (In S w w.heap.size (w.heap.size + 1)) w2 (.slice sa n sc) (line s.n s.st)) := Lib.hid (HB.out.at (f := .l (line s.n s.st)) 1 rfl rfl)
    obtain ⟨bS, oS, cS, eS, -, hcS⟩ := HRS.out.form (by rw [line_len, HN.out]; have := HPN.out; omega)
    rw [line_len, HN.out] at eS
    simp only [Value.slice.injEq] at eS
    obtain ⟨rfl, -, rfl⟩ := eS
    have dS := hcS a (by rw [line_len]; exact HPS.out)
    rw [line_at _ HPS.out, HSV.out] at dS
    clear hcS
    go_wp2_with (first | (refine wpList_plain rfl (fun K hK => wp_loadT aggGrant _ rfl w.heap.size [.int .i64 (n : Int), .slice (some ⟨bS, oS, none⟩) n sc, .slice ka n kc, .slice ta n tc, .slice ga n gc, .slice ha n hc, .slice wa nn wc] (by rfl) HB.out.ref.bB rfl ?_); refine hK _ _ ?_; clear hK) | (refine wpList_plain rfl (fun K hK => wp_storeT aggGrant _ _ rfl (w.heap.size + 1) [.int .i64 (n : Int), .slice (some ⟨bS, oS, none⟩) n sc, .slice ka n kc, .slice ta n tc, .slice ga n gc, .slice ha n hc, .slice wa nn wc] _ (by rfl) (by rfl) rfl HB.out.ref.bR rfl rfl ?_); intro wz hBz hcz; have HBZ := Lib.hid (HB.out.setR hBz hcz); clear hBz hcz; refine hK _ _ ?_; clear hK))
    (try simp only [Exit.inBlock, Exit.then]); refine bodyPost_ret (results_cell2 aggGrant rfl _ _ _ _ (by rfl) HBZ.out.ref.bR rfl) rfl ?_
    exact BAD.out 7 _ HE.out (by omega) HBZ.out
  case pos =>
  have HS0 : Hid (¬ s.st a ≠ 0) := Lib.hid (by rw [HSV.out]; exact fun h => h hs0)
  have hsb : (sv != 0) = false := by rw [hs0]; rfl
  clear hs0
  by_cases hc1 : 1000 ≤ ck
  case pos =>
    have HE : Hid (s.askErr a = 4) := Lib.hid (by unfold GNet.askErr; rw [if_neg HOK.out, Int.toNat_natCast, if_neg HS0.out, if_pos (by rw [HCK.out]; exact hc1)])
    go_enter Tryd.func7, Tryd.ntmps7
    go_wp2_with fail
    refine (ref6In_any _ _ _ _).mono ?_
    rintro e w2 ⟨rfl, rfl⟩
    rw [HIp.out]
    have HB := Lib.hid (Bx.start w [.int .i64 (n : Int), .slice sa n sc, .slice ka n kc, .slice ta n tc, .slice ga n gc, .slice ha n hc, .slice wa nn wc] [.int .i64 0, .slice none 0 0, .slice none 0 0, .slice none 0 0, .slice none 0 0, .slice none 0 0, .slice none 0 0] (gf s) HU.out 31 31)
    generalize ((w.alloc _).alloc _) = w2 at *
    have q1 : w2.cell? ⟨w.heap.size, 1, none⟩ = some (.slice sa n sc) := HB.out.ref.bB.cell 1
    have q2 : w2.cell? ⟨w.heap.size, 2, none⟩ = some (.slice ka n kc) := HB.out.ref.bB.cell 2
    have HRS : Hid (Rd (In S w w.heap.size (w.heap.size + 1)) w2 (.slice sa n sc) (line s.n s.st)) := Lib.hid (HB.out.at (f := .l (line s.n s.st)) 1 rfl rfl)
    obtain ⟨bS, oS, cS, eS, -, hcS⟩ := HRS.out.form (by rw [line_len, HN.out]; have := HPN.out; omega)
    rw [line_len, HN.out] at eS
    simp only [Value.slice.injEq] at eS
    obtain ⟨rfl, -, rfl⟩ := eS
    have dS := hcS a (by rw [line_len]; exact HPS.out)
    rw [line_at _ HPS.out, HSV.out] at dS
    clear hcS
    have HRK : Hid (Rd (In S w w.heap.size (w.heap.size + 1)) w2 (.slice ka n kc) (line s.n s.ck)) := Lib.hid (HB.out.at (f := .l (line s.n s.ck)) 2 rfl rfl)
    obtain ⟨bK, oK, cK, eK, -, hcK⟩ := HRK.out.form (by rw [line_len, HN.out]; have := HPN.out; omega)
    rw [line_len, HN.out] at eK
    simp only [Value.slice.injEq] at eK
    obtain ⟨rfl, -, rfl⟩ := eK
    have dK := hcK a (by rw [line_len]; exact HPS.out)
    rw [line_at _ HPS.out, HCK.out] at dK
    clear hcK
    go_wp2_with (first | (refine wpList_plain rfl (fun K hK => wp_loadT aggGrant _ rfl w.heap.size [.int .i64 (n : Int), .slice (some ⟨bS, oS, none⟩) n sc, .slice (some ⟨bK, oK, none⟩) n kc, .slice ta n tc, .slice ga n gc, .slice ha n hc, .slice wa nn wc] (by rfl) HB.out.ref.bB rfl ?_); refine hK _ _ ?_; clear hK) | (refine wpList_plain rfl (fun K hK => wp_storeT aggGrant _ _ rfl (w.heap.size + 1) [.int .i64 (n : Int), .slice (some ⟨bS, oS, none⟩) n sc, .slice (some ⟨bK, oK, none⟩) n kc, .slice ta n tc, .slice ga n gc, .slice ha n hc, .slice wa nn wc] _ (by rfl) (by rfl) rfl HB.out.ref.bR rfl rfl ?_); intro wz hBz hcz; have HBZ := Lib.hid (HB.out.setR hBz hcz); clear hBz hcz; refine hK _ _ ?_; clear hK))
    (try simp only [Exit.inBlock, Exit.then]); refine bodyPost_ret (results_cell2 aggGrant rfl _ _ _ _ (by rfl) HBZ.out.ref.bR rfl) rfl ?_
    exact BAD.out 4 _ HE.out (by omega) HBZ.out
  case neg =>
  have HE : Hid (s.askErr a = 0) := Lib.hid (by unfold GNet.askErr; rw [if_neg HOK.out, Int.toNat_natCast, if_neg HS0.out, if_neg (by rw [HCK.out]; exact hc1)])
  have HDO : Hid (s.ask a = s.ask0 a) := Lib.hid (by unfold GNet.ask; rw [if_pos HE.out, Int.toNat_natCast])
  have hc2 : ck < 1000 := by omega
  go_enter Tryd.func7, Tryd.ntmps7
  go_wp2_with fail
  refine (ref6In_any _ _ _ _).mono ?_
  rintro e w2 ⟨rfl, rfl⟩
  rw [HIp.out]
  have HB := Lib.hid (Bx.start w [.int .i64 (n : Int), .slice sa n sc, .slice ka n kc, .slice ta n tc, .slice ga n gc, .slice ha n hc, .slice wa nn wc] [.int .i64 0, .slice none 0 0, .slice none 0 0, .slice none 0 0, .slice none 0 0, .slice none 0 0, .slice none 0 0] (gf s) HU.out 31 31)
  generalize ((w.alloc _).alloc _) = w2 at *
  have q1 : w2.cell? ⟨w.heap.size, 1, none⟩ = some (.slice sa n sc) := HB.out.ref.bB.cell 1
  have q2 : w2.cell? ⟨w.heap.size, 2, none⟩ = some (.slice ka n kc) := HB.out.ref.bB.cell 2
  have HRS : Hid (Rd (In S w w.heap.size (w.heap.size + 1)) w2 (.slice sa n sc) (line s.n s.st)) := Lib.hid (HB.out.at (f := .l (line s.n s.st)) 1 rfl rfl)
  obtain ⟨bS, oS, cS, eS, -, hcS⟩ := HRS.out.form (by rw [line_len, HN.out]; have := HPN.out; omega)
  rw [line_len, HN.out] at eS
  simp only [Value.slice.injEq] at eS
  obtain ⟨rfl, -, rfl⟩ := eS
  have dS := hcS a (by rw [line_len]; exact HPS.out)
  rw [line_at _ HPS.out, HSV.out] at dS
  clear hcS
  have HRK : Hid (Rd (In S w w.heap.size (w.heap.size + 1)) w2 (.slice ka n kc) (line s.n s.ck)) := Lib.hid (HB.out.at (f := .l (line s.n s.ck)) 2 rfl rfl)
  obtain ⟨bK, oK, cK, eK, -, hcK⟩ := HRK.out.form (by rw [line_len, HN.out]; have := HPN.out; omega)
  rw [line_len, HN.out] at eK
  simp only [Value.slice.injEq] at eK
  obtain ⟨rfl, -, rfl⟩ := eK
  have dK := hcK a (by rw [line_len]; exact HPS.out)
  rw [line_at _ HPS.out, HCK.out] at dK
  clear hcK
  have HRL1 : Hid (Rd (In S w w.heap.size (w.heap.size + 1)) w2 (.slice (some ⟨bK, oK, none⟩) n kc) (line s.n s.ck)) := Lib.hid (HB.out.at (f := .l (line s.n s.ck)) 2 rfl rfl)
  go_wp2_with fail
  refine (set_ref (In S w w.heap.size (w.heap.size + 1)) _ (line s.n s.ck) a (ck + 1) w2 HRL1.out (by rw [line_len]; exact HPS.out) (by rw [line_len, HN.out]; have := H5.out; omega)).mono ?_
  rintro e x1 ⟨v1, rfl, hr1, hc1⟩
  obtain ⟨a1, c1, e1⟩ := hr1.val
  rw [List.length_set, line_len, HN.out] at e1
  subst e1
  have HX1 := Lib.hid (HB.out.told (f := .l _) hr1)
  have HK1 := Lib.hid (HB.out.no hc1)
  obtain ⟨t2, HS2⟩ : ∃ zz, Hid ({ s with ck := put1 s.ck a (ck + 1) } = zz) := ⟨_, Lib.hid rfl⟩
  have HN2 : Hid (t2.n = n) := Lib.hid (by rw [← HS2.out]; exact HN.out)
  have HB2 : Hid (Bx S w (x1.setCell ⟨w.heap.size, 2, none⟩ (.slice a1 n c1)) w.heap.size (w.heap.size + 1) [.int .i64 (n : Int), .slice (some ⟨bS, oS, none⟩) n sc, .slice a1 n c1, .slice ta n tc, .slice ga n gc, .slice ha n hc, .slice wa nn wc] [.int .i64 0, .slice none 0 0, .slice none 0 0, .slice none 0 0, .slice none 0 0, .slice none 0 0, .slice none 0 0] (gf t2)) := Lib.hid (by
    have h1 := HK1.out.set 2 _ _ HX1.out
    rw [gf_ck] at h1
    rw [← HS2.out]
    exact h1)
  clear hr1 hc1 HX1 HRL1 q2 q1 dS dK hsb
  have q2 : x1.cell? ⟨w.heap.size, 2, none⟩ = some (.slice (some ⟨bK, oK, none⟩) n kc) := HK1.out.ref.bB.cell 2
  have z2 := HK1.out.ref.bB.frozen 2
  go_upto_region 9 with fail
  clear q2 z2 HK1
  generalize x1.setCell _ _ = y1 at *
  clear hc1
  have HRL3 : Hid (Rd (In S w w.heap.size (w.heap.size + 1)) y1 (.slice ta n tc) (line t2.n t2.tm)) := Lib.hid (HB2.out.at (f := .l (line t2.n t2.tm)) 3 rfl rfl)
  have q3 : y1.cell? ⟨w.heap.size, 3, none⟩ = some (.slice ta n tc) := HB2.out.ref.bB.cell 3
  go_wp2_with fail
  refine (set_ref (In S w w.heap.size (w.heap.size + 1)) _ (line t2.n t2.tm) a (ck + 1) y1 HRL3.out (by rw [line_len]; exact (by rw [HN2.out]; exact HPN.out)) (by rw [line_len, HN2.out]; have := H5.out; omega)).mono ?_
  rintro e x3 ⟨v3, rfl, hr3, hc3⟩
  obtain ⟨a3, c3, e3⟩ := hr3.val
  rw [List.length_set, line_len, HN2.out] at e3
  subst e3
  have HX3 := Lib.hid (HB2.out.told (f := .l _) hr3)
  have HK3 := Lib.hid (HB2.out.no hc3)
  obtain ⟨t4, HS4⟩ : ∃ zz, Hid ({ t2 with tm := put1 t2.tm a (ck + 1) } = zz) := ⟨_, Lib.hid rfl⟩
  have HN4 : Hid (t4.n = n) := Lib.hid (by rw [← HS4.out]; exact HN2.out)
  have HB4 : Hid (Bx S w (x3.setCell ⟨w.heap.size, 3, none⟩ (.slice a3 n c3)) w.heap.size (w.heap.size + 1) [.int .i64 (n : Int), .slice (some ⟨bS, oS, none⟩) n sc, .slice a1 n c1, .slice a3 n c3, .slice ga n gc, .slice ha n hc, .slice wa nn wc] [.int .i64 0, .slice none 0 0, .slice none 0 0, .slice none 0 0, .slice none 0 0, .slice none 0 0, .slice none 0 0] (gf t4)) := Lib.hid (by
    have h1 := HK3.out.set 3 _ _ HX3.out
    rw [gf_tm] at h1
    rw [← HS4.out]
    exact h1)
  clear hr3 hc3 HX3 HRL3 q3 
  have q3 : x3.cell? ⟨w.heap.size, 3, none⟩ = some (.slice ta n tc) := HK3.out.ref.bB.cell 3
  have z3 := HK3.out.ref.bB.frozen 3
  go_upto_region 10 with fail
  clear q3 z3 HK3
  generalize x3.setCell _ _ = y3 at *
  have HRL5 : Hid (Rd (In S w w.heap.size (w.heap.size + 1)) y3 (.slice (some ⟨bS, oS, none⟩) n sc) (line t4.n t4.st)) := Lib.hid (HB4.out.at (f := .l (line t4.n t4.st)) 1 rfl rfl)
  have q1 : y3.cell? ⟨w.heap.size, 1, none⟩ = some (.slice (some ⟨bS, oS, none⟩) n sc) := HB4.out.ref.bB.cell 1
  go_wp2_with fail
  refine (set_ref (In S w w.heap.size (w.heap.size + 1)) _ (line t4.n t4.st) a (1) y3 HRL5.out (by rw [line_len]; exact (by rw [HN4.out]; exact HPN.out)) (by rw [line_len, HN4.out]; have := H5.out; omega)).mono ?_
  rintro e x5 ⟨v5, rfl, hr5, hc5⟩
  obtain ⟨a5, c5, e5⟩ := hr5.val
  rw [List.length_set, line_len, HN4.out] at e5
  subst e5
  have HX5 := Lib.hid (HB4.out.told (f := .l _) hr5)
  have HK5 := Lib.hid (HB4.out.no hc5)
  obtain ⟨t6, HS6⟩ : ∃ zz, Hid ({ t4 with st := put1 t4.st a (1) } = zz) := ⟨_, Lib.hid rfl⟩
  have HN6 : Hid (t6.n = n) := Lib.hid (by rw [← HS6.out]; exact HN4.out)
  have HB6 : Hid (Bx S w (x5.setCell ⟨w.heap.size, 1, none⟩ (.slice a5 n c5)) w.heap.size (w.heap.size + 1) [.int .i64 (n : Int), .slice a5 n c5, .slice a1 n c1, .slice a3 n c3, .slice ga n gc, .slice ha n hc, .slice wa nn wc] [.int .i64 0, .slice none 0 0, .slice none 0 0, .slice none 0 0, .slice none 0 0, .slice none 0 0, .slice none 0 0] (gf t6)) := Lib.hid (by
    have h1 := HK5.out.set 1 _ _ HX5.out
    rw [gf_st] at h1
    rw [← HS6.out]
    exact h1)
  clear hr5 hc5 HX5 HRL5 q1 
  have q1 : x5.cell? ⟨w.heap.size, 1, none⟩ = some (.slice (some ⟨bS, oS, none⟩) n sc) := HK5.out.ref.bB.cell 1
  have z1 := HK5.out.ref.bB.frozen 1
  go_upto_region 11 with fail
  clear q1 z1 HK5
  generalize x5.setCell _ _ = y5 at *
  have HRL7 : Hid (Rd (In S w w.heap.size (w.heap.size + 1)) y5 (.slice ga n gc) (natL t6.n t6.gr)) := Lib.hid (HB6.out.at (f := .l (natL t6.n t6.gr)) 4 rfl rfl)
  have q4 : y5.cell? ⟨w.heap.size, 4, none⟩ = some (.slice ga n gc) := HB6.out.ref.bB.cell 4
  go_wp2_with fail
  refine (set_ref (In S w w.heap.size (w.heap.size + 1)) _ (natL t6.n t6.gr) a (0) y5 HRL7.out (by rw [natL_len]; exact (by rw [HN6.out]; exact HPN.out)) (by rw [natL_len, HN6.out]; have := H5.out; omega)).mono ?_
  rintro e x7 ⟨v7, rfl, hr7, hc7⟩
  obtain ⟨a7, c7, e7⟩ := hr7.val
  rw [List.length_set, natL_len, HN6.out] at e7
  subst e7
  have HX7 := Lib.hid (HB6.out.told (f := .l _) hr7)
  have HK7 := Lib.hid (HB6.out.no hc7)
  obtain ⟨t8, HS8⟩ : ∃ zz, Hid ({ t6 with gr := put1 t6.gr a (0) } = zz) := ⟨_, Lib.hid rfl⟩
  have HN8 : Hid (t8.n = n) := Lib.hid (by rw [← HS8.out]; exact HN6.out)
  have HB8 : Hid (Bx S w (x7.setCell ⟨w.heap.size, 4, none⟩ (.slice a7 n c7)) w.heap.size (w.heap.size + 1) [.int .i64 (n : Int), .slice a5 n c5, .slice a1 n c1, .slice a3 n c3, .slice a7 n c7, .slice ha n hc, .slice wa nn wc] [.int .i64 0, .slice none 0 0, .slice none 0 0, .slice none 0 0, .slice none 0 0, .slice none 0 0, .slice none 0 0] (gf t8)) := Lib.hid (by
    have h1 := HK7.out.set 4 _ _ HX7.out
    rw [(show (gf t6).set 4 (.l ((natL t6.n t6.gr).set a (0))) = _ from gf_gr t6 a (0))] at h1
    rw [← HS8.out]
    exact h1)
  clear hr7 hc7 HX7 HRL7 q4 
  have q4 : x7.cell? ⟨w.heap.size, 4, none⟩ = some (.slice ga n gc) := HK7.out.ref.bB.cell 4
  have z4 := HK7.out.ref.bB.frozen 4
  go_upto_region 12 with fail
  clear q4 z4 HK7
  generalize x7.setCell _ _ = y7 at *
  have HA1 : Hid (t8 = s.ask1 a) := Lib.hid (by rw [← HS8.out, ← HS6.out, ← HS4.out, ← HS2.out]; unfold GNet.ask1; rw [HCK.out])
  go_wp2_with fail
  go_loopw [7] (fun q wr => ∃ j : Nat, j ≤ n ∧ q = .int .i64 j ∧ ∃ us, Hid (Bx S w wr w.heap.size (w.heap.size + 1) us [.int .i64 0, .slice none 0 0, .slice none 0 0, .slice none 0 0, .slice none 0 0, .slice none 0 0, .slice none 0 0] (gf (t8.bcast a (ck + 1) (fun b => decide (b ≠ a)) j)))) (fun q _ => n - (intOf q).toNat)
  case atStart => exact ⟨0, Nat.zero_le _, rfl, _, Lib.hid (by rw [bcast_zero]; exact HB8.out)⟩
  case round =>
    clear HB8
    obtain ⟨j, hjn, rfl, us, HJ⟩ := hrel
    obtain ⟨s5, HS5⟩ : ∃ zz, Hid (t8.bcast a (ck + 1) (fun b => decide (b ≠ a)) j = zz) := ⟨_, Lib.hid rfl⟩
    rw [HS5.out] at HJ
    have HN5 : Hid (s5.n = n) := Lib.hid (by rw [← HS5.out]; exact HN8.out)
    obtain ⟨sa, sc, ka, kc, ta, tc, ga, gc, ha, hc, wa, wc, rfl⟩ := gf_opn HJ.out.fld
    rw [HN5.out, HNN.out] at HJ
    have q0 : wr.cell? ⟨w.heap.size, 0, none⟩ = some (.int .i64 (n : Int)) := HJ.out.ref.bB.cell 0
    by_cases hj : j < n
    · have hj1 : (j : Int) < n := by omega
      have HJN : Hid (j + 1 ≤ n) := Lib.hid hj
      have hn4 := H5.out
      cases hcj : ((fun b => decide (b ≠ a))) j with
      | false =>
        have HJ2 : Hid (Bx S w wr w.heap.size (w.heap.size + 1) [.int .i64 (n : Int), .slice sa n sc, .slice ka n kc, .slice ta n tc, .slice ga n gc, .slice ha n hc, .slice wa nn wc] [.int .i64 0, .slice none 0 0, .slice none 0 0, .slice none 0 0, .slice none 0 0, .slice none 0 0, .slice none 0 0] (gf (t8.bcast a (ck + 1) (fun b => decide (b ≠ a)) (j + 1)))) := Lib.hid (by rw [bcast_skip t8 a (ck + 1) hcj, HS5.out]; exact HJ.out)
        have hja : ((j : Int) != (a : Int)) = false := by rw [bne_eq_false_iff_eq]; have := of_decide_eq_false hcj; omega
        clear hcj
        clear hj hjn
        go_wp2
        go_roundw
        case rel => first | exact ⟨j + 1, HJN.out, by go_num, _, HJ2⟩ | ((repeat apply Exists.intro); exact ⟨⟨HJN.out, by go_num, _, HJ2⟩, rfl⟩)
        case measure => have := HJN.out; simp [intOf]; omega
      | true =>
        have HJS : Hid (j < s5.n) := Lib.hid (by rw [HN5.out]; exact hj)
        have HAS : Hid (a < s5.n) := Lib.hid (by rw [HN5.out]; exact HPN.out)
        have HLN : Hid ((s5.ways a j).length < 5000) := Lib.hid (by rw [← HS5.out, bcast_len]; rw [HA1.out]; have := HS.out.len a j HPS.out (by rw [HN.out]; exact hj); exact Nat.lt_trans this (by omega))
        have hja : ((j : Int) != (a : Int)) = true := by rw [bne_iff_ne]; have := of_decide_eq_true hcj; omega
        clear hj hjn
        go_wp2_with (refine wpList_plain rfl (fun K hK => wp_loadT aggGrant _ rfl w.heap.size [.int .i64 (n : Int), .slice sa n sc, .slice ka n kc, .slice ta n tc, .slice ga n gc, .slice ha n hc, .slice wa nn wc] (by rfl) HJ.out.ref.bB rfl ?_); refine hK _ _ ?_; clear hK)
        refine (sendGrant_ref (In S w w.heap.size (w.heap.size + 1)) _ _ s5 HJ.out.fld (by rw [HN5.out]; exact H5.out) a j HAS.out HJS.out (ck + 1) HLN.out).mono ?_
        rintro e w8 ⟨v8, rfl, us8, rfl, hr8, hc8⟩
        have HR8 := Lib.hid (HJ.out.toldS hr8)
        have HB8 := Lib.hid (HJ.out.no hc8)
        clear hr8 hc8 q0
        go_wp2_with (refine wpList_plain rfl (fun K hK => wp_storeT aggGrant _ _ rfl w.heap.size us8 [.int .i64 (n : Int), .slice sa n sc, .slice ka n kc, .slice ta n tc, .slice ga n gc, .slice ha n hc, .slice wa nn wc] (by rfl) (by rfl) HR8.out.len HB8.out.ref.bB rfl HR8.out.one ?_); intro w9 hB9 hc9; have HB9 := Lib.hid (HB8.out.setB hB9 hc9 HR8.out); clear hB9 hc9; refine hK _ _ ?_; clear hK)
        have HJ2 : Hid (Bx S w w9 w.heap.size (w.heap.size + 1) us8 [.int .i64 0, .slice none 0 0, .slice none 0 0, .slice none 0 0, .slice none 0 0, .slice none 0 0, .slice none 0 0] (gf (t8.bcast a (ck + 1) (fun b => decide (b ≠ a)) (j + 1)))) := Lib.hid (by rw [← bcast_push t8 a (ck + 1) hcj, HS5.out]; exact HB9.out)
        clear HB9 HB8 HR8
        go_roundw
        case rel => first | exact ⟨j + 1, HJN.out, by go_num, us8, HJ2⟩ | ((repeat apply Exists.intro); exact ⟨⟨HJN.out, by go_num, us8, HJ2⟩, rfl⟩)
        case measure => have := HJN.out; simp [intOf]; omega
    · obtain rfl : n = j := by omega
      have hj1 : ¬ (n : Int) < n := by omega
      clear hj hjn
      have HAS : Hid (a < s5.n) := Lib.hid (by rw [HN5.out]; exact HPN.out)
      have HGR : Hid (s5.gr a < 2 ^ s5.n) := Lib.hid (by rw [← HS5.out]; show t8.gr a < _; rw [HA1.out]; show put1 s.gr a 0 a < _; rw [put1_self]; exact Nat.pow_pos (by omega))
      have HFIN : Hid (s.ask a = s5.enter a) := Lib.hid (by rw [HDO.out]; unfold GNet.ask0; rw [← HS5.out, HA1.out, HCK.out, HN.out])
      go_wp2_with (refine wpList_plain rfl (fun K hK => wp_loadT aggGrant _ rfl w.heap.size [.int .i64 (n : Int), .slice sa n sc, .slice ka n kc, .slice ta n tc, .slice ga n gc, .slice ha n hc, .slice wa nn wc] (by rfl) HJ.out.ref.bB rfl ?_); refine hK _ _ ?_; clear hK)
      refine (enterGrant_ref (In S w w.heap.size (w.heap.size + 1)) _ _ s5 HJ.out.fld (by rw [HN5.out]; exact H5.out) a HAS.out HGR.out).mono ?_
      rintro e w8 ⟨v8, rfl, us8, rfl, hr8, hc8⟩
      have HR8 := Lib.hid (HJ.out.toldS hr8)
      have HB8 := Lib.hid (HJ.out.no hc8)
      clear hr8 hc8
      go_wp2_with (refine wpList_plain rfl (fun K hK => wp_storeT aggGrant _ _ rfl (w.heap.size + 1) us8 _ (by rfl) (by rfl) HR8.out.len HB8.out.ref.bR rfl HR8.out.one ?_); intro w9 hB9 hc9; have HB9 := Lib.hid hB9; have HC9 : Hid (Chg NoF w w9) := Lib.hid (HB8.out.ref.chg.trans2 hc9 fun i _ hi => .inr (by have hi : i = w.heap.size + 1 := hi; omega)); have HR9 : Hid (RdS (More S w) w9 us8 (gf (s5.enter a))) := Lib.hid ((HR8.out.keep hc9 (fun b hb e => (HB8.out.notB b hb).2 e)).mono (fun b _ hb => hb.elim (fun h => .inl h.1) (fun h => .inr h.1))); clear hB9 hc9; refine hK _ _ ?_; clear hK)
      (try simp only [Exit.inBlock, Exit.then]); refine bodyPost_ret (results_cell2 aggGrant rfl _ _ _ _ (by rfl) HB9.out HR8.out.len) rfl ?_
      exact ⟨_, by rw [HE.out]; rfl, us8, rfl, by rw [HFIN.out]; exact HR9.out, HC9.out⟩

set_option maxHeartbeats 8000000 in
set_option maxRecDepth 100000 in
theorem leave_ref (S : Nat → Prop) (w : World) (us : List Value) (s : GNet) (h : RdS S w us (gf s)) (hs : Sane s) (p : Int) :
    Calls Tryd.prog 9 #[.agg us.toArray, .int .i64 p] w (GAns S w (s.leave p) (s.leaveErr p)) := by
  have h4 := hs.n4
  obtain ⟨sa, sc, ka, kc, ta, tc, ga, gc, ha, hc, wa, wc, rfl⟩ := gf_opn h
  have HU := Lib.hid h
  obtain ⟨n, HN⟩ : ∃ n, Hid (s.n = n) := ⟨_, Lib.hid rfl⟩
  obtain ⟨nn, HNN⟩ : ∃ nn, Hid (n * n = nn) := ⟨_, Lib.hid rfl⟩
  have H5 : Hid (n ≤ 4) := Lib.hid (by rw [← HN.out]; exact h4)
  have HN25 : Hid (nn ≤ 16) := Lib.hid (by rw [← HNN.out]; exact Nat.mul_le_mul H5.out H5.out)
  rw [HN.out, HNN.out] at HU ⊢
  have HS := Lib.hid hs
  have hwn : wrap64 ((n : Int) - 1) = (n : Int) - 1 := IntWalk.wrap64_in _ (by have := H5.out; omega)
  clear h h4 hs
  have BAD : Hid (∀ x (w' : World), s.leaveErr p = x → x ≠ 0 → Bx S w w' w.heap.size (w.heap.size + 1) [.int .i64 (n : Int), .slice sa n sc, .slice ka n kc, .slice ta n tc, .slice ga n gc, .slice ha n hc, .slice wa nn wc] [.int .i64 (n : Int), .slice sa n sc, .slice ka n kc, .slice ta n tc, .slice ga n gc, .slice ha n hc, .slice wa nn wc] (gf s) → GAns S w (s.leave p) (s.leaveErr p) (.returned (.tuple #[.agg #[.int .i64 (n : Int), .slice sa n sc, .slice ka n kc, .slice ta n tc, .slice ga n gc, .slice ha n hc, .slice wa nn wc], .int .i64 x])) w') := Lib.hid fun x w' he hx hR => by
    have h1 : s.leave p = s := by unfold GNet.leave; rw [if_neg (by rw [he]; exact hx)]
    rw [h1, he]
    exact ⟨_, rfl, hR.ans⟩
  have HIp : Hid (inB p 0 ((n : Int) - 1) = s.is p) := Lib.hid (by rw [← HN.out]; exact s.is_in p)
  cases hip : s.is p with
  | false =>
    have HE : Hid (s.leaveErr p = 1) := Lib.hid (by unfold GNet.leaveErr; rw [if_pos hip])
    rw [hip] at HIp
    clear hip
    go_enter Tryd.func9, Tryd.ntmps9
    go_wp2_with fail
    refine (ref6In_any _ _ _ _).mono ?_
    rintro e w2 ⟨rfl, rfl⟩
    rw [HIp.out]
    have HB := Lib.hid (Bx.start w [.int .i64 (n : Int), .slice sa n sc, .slice ka n kc, .slice ta n tc, .slice ga n gc, .slice ha n hc, .slice wa nn wc] [.int .i64 0, .slice none 0 0, .slice none 0 0, .slice none 0 0, .slice none 0 0, .slice none 0 0, .slice none 0 0] (gf s) HU.out 31 31)
    generalize ((w.alloc _).alloc _) = w2 at *
    go_wp2_with (first | (refine wpList_plain rfl (fun K hK => wp_loadT aggGrant _ rfl w.heap.size [.int .i64 (n : Int), .slice sa n sc, .slice ka n kc, .slice ta n tc, .slice ga n gc, .slice ha n hc, .slice wa nn wc] (by rfl) HB.out.ref.bB rfl ?_); refine hK _ _ ?_; clear hK) | (refine wpList_plain rfl (fun K hK => wp_storeT aggGrant _ _ rfl (w.heap.size + 1) [.int .i64 (n : Int), .slice sa n sc, .slice ka n kc, .slice ta n tc, .slice ga n gc, .slice ha n hc, .slice wa nn wc] _ (by rfl) (by rfl) rfl HB.out.ref.bR rfl rfl ?_); intro wz hBz hcz; have HBZ := Lib.hid (HB.out.setR hBz hcz); clear hBz hcz; refine hK _ _ ?_; clear hK))
    (try simp only [Exit.inBlock, Exit.then]); refine bodyPost_ret (results_cell2 aggGrant rfl _ _ _ _ (by rfl) HBZ.out.ref.bR rfl) rfl ?_
    exact BAD.out 1 _ HE.out (by omega) HBZ.out
  | true =>
  have HOK : Hid (¬ s.is p = false) := Lib.hid (by rw [hip]; simp)
  rw [hip] at HIp
  obtain ⟨a, rfl, haa⟩ := (s.is_iff p).1 hip
  have HPS := Lib.hid haa
  have HPN : Hid (a < n) := Lib.hid (by rw [← HN.out]; exact haa)
  have han : (a : Int) < n := by have := HPN.out; omega
  clear haa hip
  obtain ⟨sv, HSV⟩ : ∃ x, Hid (s.st a = x) := ⟨_, Lib.hid rfl⟩
  by_cases hs0 : sv = 2
  case neg =>
    have HE : Hid (s.leaveErr a = 7) := Lib.hid (by unfold GNet.leaveErr; rw [if_neg HOK.out, Int.toNat_natCast, if_pos (by rw [HSV.out]; exact hs0)])
    have hsb : (sv != 2) = true := by rw [bne_iff_ne]; exact hs0
    clear hs0
    go_enter Tryd.func9, Tryd.ntmps9
    go_wp2_with fail
    refine (ref6In_any _ _ _ _).mono ?_
    rintro e w2 ⟨rfl, rfl⟩
    rw [HIp.out]
    have HB := Lib.hid (Bx.start w [.int .i64 (n : Int), .slice sa n sc, .slice ka n kc, .slice ta n tc, .slice ga n gc, .slice ha n hc, .slice wa nn wc] [.int .i64 0, .slice none 0 0, .slice none 0 0, .slice none 0 0, .slice none 0 0, .slice none 0 0, .slice none 0 0] (gf s) HU.out 31 31)
    generalize ((w.alloc _).alloc _) = w2 at *
    have q1 : w2.cell? ⟨w.heap.size, 1, none⟩ = some (.slice sa n sc) := HB.out.ref.bB.cell 1
    have HRS : Hid (Rd (In S w w.heap.size (w.heap.size + 1)) w2 (.slice sa n sc) (line s.n s.st)) := Lib.hid (HB.out.at (f := .l (line s.n s.st)) 1 rfl rfl)
    obtain ⟨bS, oS, cS, eS, -, hcS⟩ := HRS.out.form (by rw [line_len, HN.out]; have := HPN.out; omega)
    rw [line_len, HN.out] at eS
    simp only [Value.slice.injEq] at eS
    obtain ⟨rfl, -, rfl⟩ := eS
    have dS := hcS a (by rw [line_len]; exact HPS.out)
    rw [line_at _ HPS.out, HSV.out] at dS
    clear hcS
    go_wp2_with (first | (refine wpList_plain rfl (fun K hK => wp_loadT aggGrant _ rfl w.heap.size [.int .i64 (n : Int), .slice (some ⟨bS, oS, none⟩) n sc, .slice ka n kc, .slice ta n tc, .slice ga n gc, .slice ha n hc, .slice wa nn wc] (by rfl) HB.out.ref.bB rfl ?_); refine hK _ _ ?_; clear hK) | (refine wpList_plain rfl (fun K hK => wp_storeT aggGrant _ _ rfl (w.heap.size + 1) [.int .i64 (n : Int), .slice (some ⟨bS, oS, none⟩) n sc, .slice ka n kc, .slice ta n tc, .slice ga n gc, .slice ha n hc, .slice wa nn wc] _ (by rfl) (by rfl) rfl HB.out.ref.bR rfl rfl ?_); intro wz hBz hcz; have HBZ := Lib.hid (HB.out.setR hBz hcz); clear hBz hcz; refine hK _ _ ?_; clear hK))
    (try simp only [Exit.inBlock, Exit.then]); refine bodyPost_ret (results_cell2 aggGrant rfl _ _ _ _ (by rfl) HBZ.out.ref.bR rfl) rfl ?_
    exact BAD.out 7 _ HE.out (by omega) HBZ.out
  case pos =>
  have HE : Hid (s.leaveErr a = 0) := Lib.hid (by unfold GNet.leaveErr; rw [if_neg HOK.out, Int.toNat_natCast, if_neg (by rw [HSV.out]; exact fun h => h hs0)])
  have HDO : Hid (s.leave a = s.leave0 a) := Lib.hid (by unfold GNet.leave; rw [if_pos HE.out, Int.toNat_natCast])
  have hsb : (sv != 2) = false := by rw [hs0]; rfl
  clear hs0
  go_enter Tryd.func9, Tryd.ntmps9
  go_wp2_with fail
  refine (ref6In_any _ _ _ _).mono ?_
  rintro e w2 ⟨rfl, rfl⟩
  rw [HIp.out]
  have HB := Lib.hid (Bx.start w [.int .i64 (n : Int), .slice sa n sc, .slice ka n kc, .slice ta n tc, .slice ga n gc, .slice ha n hc, .slice wa nn wc] [.int .i64 0, .slice none 0 0, .slice none 0 0, .slice none 0 0, .slice none 0 0, .slice none 0 0, .slice none 0 0] (gf s) HU.out 31 31)
  generalize ((w.alloc _).alloc _) = w2 at *
  have q1 : w2.cell? ⟨w.heap.size, 1, none⟩ = some (.slice sa n sc) := HB.out.ref.bB.cell 1
  have HRS : Hid (Rd (In S w w.heap.size (w.heap.size + 1)) w2 (.slice sa n sc) (line s.n s.st)) := Lib.hid (HB.out.at (f := .l (line s.n s.st)) 1 rfl rfl)
  obtain ⟨bS, oS, cS, eS, -, hcS⟩ := HRS.out.form (by rw [line_len, HN.out]; have := HPN.out; omega)
  rw [line_len, HN.out] at eS
  simp only [Value.slice.injEq] at eS
  obtain ⟨rfl, -, rfl⟩ := eS
  have dS := hcS a (by rw [line_len]; exact HPS.out)
  rw [line_at _ HPS.out, HSV.out] at dS
  clear hcS
  have HRL21 : Hid (Rd (In S w w.heap.size (w.heap.size + 1)) w2 (.slice (some ⟨bS, oS, none⟩) n sc) (line s.n s.st)) := Lib.hid (HB.out.at (f := .l (line s.n s.st)) 1 rfl rfl)
  go_wp2_with fail
  refine (set_ref (In S w w.heap.size (w.heap.size + 1)) _ (line s.n s.st) a (0) w2 HRL21.out (by rw [line_len]; exact HPS.out) (by rw [line_len, HN.out]; have := H5.out; omega)).mono ?_
  rintro e x21 ⟨v21, rfl, hr21, hc21⟩
  obtain ⟨a21, c21, e21⟩ := hr21.val
  rw [List.length_set, line_len, HN.out] at e21
  subst e21
  have HX21 := Lib.hid (HB.out.told (f := .l _) hr21)
  have HK21 := Lib.hid (HB.out.no hc21)
  obtain ⟨t22, HS22⟩ : ∃ zz, Hid ({ s with st := put1 s.st a (0) } = zz) := ⟨_, Lib.hid rfl⟩
  have HN22 : Hid (t22.n = n) := Lib.hid (by rw [← HS22.out]; exact HN.out)
  have HB22 : Hid (Bx S w (x21.setCell ⟨w.heap.size, 1, none⟩ (.slice a21 n c21)) w.heap.size (w.heap.size + 1) [.int .i64 (n : Int), .slice a21 n c21, .slice ka n kc, .slice ta n tc, .slice ga n gc, .slice ha n hc, .slice wa nn wc] [.int .i64 0, .slice none 0 0, .slice none 0 0, .slice none 0 0, .slice none 0 0, .slice none 0 0, .slice none 0 0] (gf t22)) := Lib.hid (by
    have h1 := HK21.out.set 1 _ _ HX21.out
    rw [gf_st] at h1
    rw [← HS22.out]
    exact h1)
  clear hr21 hc21 HX21 HRL21 q1 dS hsb
  have q1 : x21.cell? ⟨w.heap.size, 1, none⟩ = some (.slice (some ⟨bS, oS, none⟩) n sc) := HK21.out.ref.bB.cell 1
  have z1 := HK21.out.ref.bB.frozen 1
  go_upto_region 6 with fail
  clear q1 z1 HK21
  generalize x21.setCell _ _ = y21 at *
  have HL1 : Hid (t22 = s.leave1 a) := Lib.hid (by rw [← HS22.out]; rfl)
  obtain ⟨wv, HWV⟩ : ∃ x, Hid (s.wt a = x) := ⟨_, Lib.hid rfl⟩
  have HW16 : Hid (wv < 16) := Lib.hid (by rw [← HWV.out]; exact sub16 HS.out.n4 (HS.out.wt a HPS.out))
  go_wp2_with fail
  go_loopw [6] (fun q wr => ∃ j : Nat, j ≤ n ∧ q = .int .i64 j ∧ ∃ us, Hid (Bx S w wr w.heap.size (w.heap.size + 1) us [.int .i64 0, .slice none 0 0, .slice none 0 0, .slice none 0 0, .slice none 0 0, .slice none 0 0, .slice none 0 0] (gf (t22.bcast a 0 (bitB wv) j)))) (fun q _ => n - (intOf q).toNat)
  case atStart => exact ⟨0, Nat.zero_le _, rfl, _, Lib.hid (by rw [bcast_zero]; exact HB22.out)⟩
  case round =>
    clear HB22
    obtain ⟨j, hjn, rfl, us, HJ⟩ := hrel
    obtain ⟨s5, HS5⟩ : ∃ zz, Hid (t22.bcast a 0 (bitB wv) j = zz) := ⟨_, Lib.hid rfl⟩
    rw [HS5.out] at HJ
    have HN5 : Hid (s5.n = n) := Lib.hid (by rw [← HS5.out]; exact HN22.out)
    obtain ⟨sa, sc, ka, kc, ta, tc, ga, gc, ha, hc, wa, wc, rfl⟩ := gf_opn HJ.out.fld
    rw [HN5.out, HNN.out] at HJ
    have q0 : wr.cell? ⟨w.heap.size, 0, none⟩ = some (.int .i64 (n : Int)) := HJ.out.ref.bB.cell 0
    by_cases hj : j < n
    · have hj1 : (j : Int) < n := by omega
      have HJN : Hid (j + 1 ≤ n) := Lib.hid hj
      have hn4 := H5.out
      have HRW : Hid (Rd (In S w w.heap.size (w.heap.size + 1)) wr (.slice ha n hc) (natL s5.n s5.wt)) := Lib.hid (HJ.out.at (f := .l (natL s5.n s5.wt)) 5 rfl rfl)
      have q5 : wr.cell? ⟨w.heap.size, 5, none⟩ = some (.slice ha n hc) := HJ.out.ref.bB.cell 5
      obtain ⟨bW, oW, cW, eW, -, hcW⟩ := HRW.out.form (by rw [natL_len, HN5.out]; omega)
      rw [natL_len, HN5.out] at eW
      simp only [Value.slice.injEq] at eW
      obtain ⟨rfl, -, rfl⟩ := eW
      have dW := hcW a (by rw [natL_len, HN5.out]; exact HPN.out)
      rw [natL_at _ (show a < s5.n by rw [HN5.out]; exact HPN.out), show s5.wt a = wv by rw [← HS5.out]; show t22.wt a = wv; rw [HL1.out]; exact HWV.out] at dW
      have HBIT := Lib.hid (fun wq => bit_any wv j (by have := HW16.out; omega) (by omega) wq)
      clear hcW
      cases hcj : ((bitB wv)) j with
      | false =>
        have HJ2 : Hid (Bx S w wr w.heap.size (w.heap.size + 1) [.int .i64 (n : Int), .slice sa n sc, .slice ka n kc, .slice ta n tc, .slice ga n gc, .slice (some ⟨bW, oW, none⟩) n hc, .slice wa nn wc] [.int .i64 0, .slice none 0 0, .slice none 0 0, .slice none 0 0, .slice none 0 0, .slice none 0 0, .slice none 0 0] (gf (t22.bcast a 0 (bitB wv) (j + 1)))) := Lib.hid (by rw [bcast_skip t22 a 0 hcj, HS5.out]; exact HJ.out)
        rw [hcj] at HBIT
        clear hj hjn hcj
        go_wp2_with fail
        refine (HBIT.out wr).mono ?_
        rintro e wq ⟨rfl, rfl⟩
        clear q5 dW
        go_wp2
        go_roundw
        case rel => first | exact ⟨j + 1, HJN.out, by go_num, _, HJ2⟩ | ((repeat apply Exists.intro); exact ⟨⟨HJN.out, by go_num, _, HJ2⟩, rfl⟩)
        case measure => have := HJN.out; simp [intOf]; omega
      | true =>
        have HJS : Hid (j < s5.n) := Lib.hid (by rw [HN5.out]; exact hj)
        have HAS : Hid (a < s5.n) := Lib.hid (by rw [HN5.out]; exact HPN.out)
        have HLN : Hid ((s5.ways a j).length < 5000) := Lib.hid (by rw [← HS5.out, bcast_len]; rw [HL1.out]; have := HS.out.len a j HPS.out (by rw [HN.out]; exact hj); exact Nat.lt_trans this (by omega))
        rw [hcj] at HBIT
        clear hj hjn
        go_wp2_with fail
        refine (HBIT.out wr).mono ?_
        rintro e wq ⟨rfl, rfl⟩
        clear q5 dW
        go_wp2_with (refine wpList_plain rfl (fun K hK => wp_loadT aggGrant _ rfl w.heap.size [.int .i64 (n : Int), .slice sa n sc, .slice ka n kc, .slice ta n tc, .slice ga n gc, .slice (some ⟨bW, oW, none⟩) n hc, .slice wa nn wc] (by rfl) HJ.out.ref.bB rfl ?_); refine hK _ _ ?_; clear hK)
        refine (sendGrant_ref (In S w w.heap.size (w.heap.size + 1)) _ _ s5 HJ.out.fld (by rw [HN5.out]; exact H5.out) a j HAS.out HJS.out 0 HLN.out).mono ?_
        rintro e w8 ⟨v8, rfl, us8, rfl, hr8, hc8⟩
        have HR8 := Lib.hid (HJ.out.toldS hr8)
        have HB8 := Lib.hid (HJ.out.no hc8)
        clear hr8 hc8 q0
        go_wp2_with (refine wpList_plain rfl (fun K hK => wp_storeT aggGrant _ _ rfl w.heap.size us8 [.int .i64 (n : Int), .slice sa n sc, .slice ka n kc, .slice ta n tc, .slice ga n gc, .slice (some ⟨bW, oW, none⟩) n hc, .slice wa nn wc] (by rfl) (by rfl) HR8.out.len HB8.out.ref.bB rfl HR8.out.one ?_); intro w9 hB9 hc9; have HB9 := Lib.hid (HB8.out.setB hB9 hc9 HR8.out); clear hB9 hc9; refine hK _ _ ?_; clear hK)
        have HJ2 : Hid (Bx S w w9 w.heap.size (w.heap.size + 1) us8 [.int .i64 0, .slice none 0 0, .slice none 0 0, .slice none 0 0, .slice none 0 0, .slice none 0 0, .slice none 0 0] (gf (t22.bcast a 0 (bitB wv) (j + 1)))) := Lib.hid (by rw [← bcast_push t22 a 0 hcj, HS5.out]; exact HB9.out)
        clear HB9 HB8 HR8
        go_roundw
        case rel => first | exact ⟨j + 1, HJN.out, by go_num, us8, HJ2⟩ | ((repeat apply Exists.intro); exact ⟨⟨HJN.out, by go_num, us8, HJ2⟩, rfl⟩)
        case measure => have := HJN.out; simp [intOf]; omega
    · obtain rfl : n = j := by omega
      have hj1 : ¬ (n : Int) < n := by omega
      clear hj hjn
      have HRL23 : Hid (Rd (In S w w.heap.size (w.heap.size + 1)) wr (.slice ha n hc) (natL s5.n s5.wt)) := Lib.hid (HJ.out.at (f := .l (natL s5.n s5.wt)) 5 rfl rfl)
      have q5 : wr.cell? ⟨w.heap.size, 5, none⟩ = some (.slice ha n hc) := HJ.out.ref.bB.cell 5
      go_wp2_with fail
      refine (set_ref (In S w w.heap.size (w.heap.size + 1)) _ (natL s5.n s5.wt) a (0) wr HRL23.out (by rw [natL_len]; exact (by rw [HN5.out]; exact HPN.out)) (by rw [natL_len, HN5.out]; have := H5.out; omega)).mono ?_
      rintro e x23 ⟨v23, rfl, hr23, hc23⟩
      obtain ⟨a23, c23, e23⟩ := hr23.val
      rw [List.length_set, natL_len, HN5.out] at e23
      subst e23
      have HX23 := Lib.hid (HJ.out.told (f := .l _) hr23)
      have HK23 := Lib.hid (HJ.out.no hc23)
      obtain ⟨t24, HS24⟩ : ∃ zz, Hid ({ s5 with wt := put1 s5.wt a (0) } = zz) := ⟨_, Lib.hid rfl⟩
      have HN24 : Hid (t24.n = n) := Lib.hid (by rw [← HS24.out]; exact HN5.out)
      have HB24 : Hid (Bx S w (x23.setCell ⟨w.heap.size, 5, none⟩ (.slice a23 n c23)) w.heap.size (w.heap.size + 1) [.int .i64 (n : Int), .slice sa n sc, .slice ka n kc, .slice ta n tc, .slice ga n gc, .slice a23 n c23, .slice wa nn wc] [.int .i64 0, .slice none 0 0, .slice none 0 0, .slice none 0 0, .slice none 0 0, .slice none 0 0, .slice none 0 0] (gf t24)) := Lib.hid (by
        have h1 := HK23.out.set 5 _ _ HX23.out
        rw [(show (gf s5).set 5 (.l ((natL s5.n s5.wt).set a (0))) = _ from gf_wt s5 a (0))] at h1
        rw [← HS24.out]
        exact h1)
      clear hr23 hc23 HX23 HRL23 q5 q0
      have q5 : x23.cell? ⟨w.heap.size, 5, none⟩ = some (.slice ha n hc) := HK23.out.ref.bB.cell 5
      have z5 := HK23.out.ref.bB.frozen 5
      have HFIN : Hid (s.leave a = t24) := Lib.hid (by rw [HDO.out, ← HS24.out, ← HS5.out, HL1.out, ← HN.out]; unfold GNet.leave0; rw [HWV.out]; rfl)
      go_wp2_with (first | (refine wpList_plain rfl (fun K hK => wp_loadT aggGrant _ rfl w.heap.size [.int .i64 (n : Int), .slice sa n sc, .slice ka n kc, .slice ta n tc, .slice ga n gc, .slice a23 n c23, .slice wa nn wc] (by rfl) HB24.out.ref.bB rfl ?_); refine hK _ _ ?_; clear hK) | (refine wpList_plain rfl (fun K hK => wp_storeT aggGrant _ _ rfl (w.heap.size + 1) [.int .i64 (n : Int), .slice sa n sc, .slice ka n kc, .slice ta n tc, .slice ga n gc, .slice a23 n c23, .slice wa nn wc] _ (by rfl) (by rfl) rfl HB24.out.ref.bR rfl rfl ?_); intro wz hBz hcz; have HBZ := Lib.hid (HB24.out.setR hBz hcz); clear hBz hcz; refine hK _ _ ?_; clear hK))
      (try simp only [Exit.inBlock, Exit.then]); refine bodyPost_ret (results_cell2 aggGrant rfl _ _ _ _ (by rfl) HBZ.out.ref.bR rfl) rfl ?_
      rw [HE.out, HFIN.out]
      exact ⟨_, rfl, HBZ.out.ans⟩

end Go.Proofs.YtmkjfiopkmcjcaaDoor
