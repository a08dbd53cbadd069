/-
  The lock whose token goes from one to the next: giving on, and bringing.
  Conditions: a net as New made it, with fewer than 1000 in its queue.
-/
import Derived.Test.YthblnljjhbdejaaDoorToA
import Derived.Test.YthblnljjhbdejaaDoorFind
namespace Go.Proofs.YthblnljjhbdejaaDoor
open Go Go.RowKit

def DonePost (S : Nat → Prop) (w : World) (t g : Nat) (s' : TNet) (e : Ending) (w' : World) : Prop :=
  e = .returned (.tuple #[]) ∧ TIn S w' t g s' ∧ Chg (fun k => ¬ S k) w w'
def ErrPost (S : Nat → Prop) (w : World) (t g : Nat) (n : Int) (s' : TNet) (e : Ending) (w' : World) : Prop :=
  e = .returned (errV n) ∧ TIn S w' t g s' ∧ Chg (fun k => ¬ S k) w w'

set_option maxHeartbeats 1000000 in
theorem is_any (S : Nat → Prop) (w : World) (t g : Nat) (s : TNet) (h : TIn S w t g s) (h0 : 0 < s.n) (i : Int) :
    Calls Tryd.prog 25 #[.pointer (some ⟨t, 0, none⟩), .int .i64 i] w fun e w' => e = .returned (.bool (s.is i)) ∧ w = w' := by
  obtain ⟨V, tag, ⟨cN, vN⟩, h⟩ := h
  have c0 : w.cell? ⟨t, 0, none⟩ = some (V .nodes) := h.blk.cell 0
  rw [vN] at c0
  have HR : Hid (s.is i = inB i 0 ((s.n : Int) - 1)) := Lib.hid rfl
  rw [HR.out]
  have hn5 : s.n ≤ 9223372036854775807 := by
    obtain ⟨_, _, h1, _, _, h2, h3⟩ := h.val .nodes h0
    have h4 : s.n ≤ _ := h2
    have : maxLen = 9223372036854775807 := rfl
    omega
  obtain ⟨n, hN⟩ : ∃ n, Hid (s.n = n) := ⟨_, Lib.hid rfl⟩
  rw [hN.out] at c0 h0 hn5 ⊢
  clear h vN HR
  go_enter Tryd.func25, Tryd.ntmps25
  go_wp2_with (go_at_call 31; refine (within_any _ _ _ _).mono ?_; rintro e w' ⟨rfl, rfl⟩)
  go_ret
  exact ⟨rfl, rfl⟩

set_option maxHeartbeats 2000000 in
set_option maxRecDepth 100000 in
theorem give_any (S : Nat → Prop) (w : World) (t g : Nat) (s : TNet) (h : TIn S w t g s) (hq : s.queue.length < 1000) :
    Calls Tryd.prog 29 #[.pointer (some ⟨t, 0, none⟩)] w (DonePost S w t g s.give) := by
  have HIN := Lib.hid h
  obtain ⟨V, tag, ⟨cN, vN⟩, h⟩ := h
  obtain ⟨hQ, c4, hQb⟩ := h.queueAt
  obtain ⟨l, HL⟩ : ∃ l, Hid (s.queue = l) := ⟨_, Lib.hid rfl⟩
  rw [HL.out] at hQ hq
  cases l with
  | nil =>
    have hE : Hid (s.give = s) := Lib.hid (by unfold TNet.give; rw [HL.out])
    obtain ⟨aM, cM, hMv⟩ := owns_val hQ
    rw [hMv] at c4
    clear h vN hQ hQb hMv
    go_enter Tryd.func29, Tryd.ntmps29
    go_wp2
    go_end0
    exact ⟨rfl, by rw [hE.out]; exact HIN.out, Chg.refl _ _⟩
  | cons x l =>
    have hE : Hid (s.give = { s with holder := -1, target := x, queue := l }) := Lib.hid (by unfold TNet.give; rw [HL.out])
    have hown : Own w (fun _ => 0) 0 3 1 (V .queue) (x :: l).length ((x :: l).map (.int .i64)) := ⟨hQ, fun _ _ => rfl⟩
    obtain ⟨gM, cap, hMv, _, ltM, hcap, hcmax, _, hMc, _⟩ := hown.form' (by simp)
    have HCM := Lib.hid hcmax
    have cX : w.cell? ⟨gM, 0, none⟩ = some (.int .i64 x) := by rw [hMc 0 (by simp)]; rfl
    have nt : ¬ gM = t := fun e => (hQb gM (by rw [hMv]; rfl)).2.2.1 e
    have nt2 : ¬ t = gM := fun e => nt e.symm
    have hcap1 : l.length + 1 ≤ cap := hcap
    have hlen : (x :: l).length = l.length + 1 := rfl
    rw [hMv, hlen] at c4
    obtain ⟨m, hm⟩ : ∃ m, Hid (l.length = m) := ⟨_, Lib.hid rfl⟩
    have hlb : l.length < 1000 := by rw [hlen] at hq; omega
    rw [hm.out] at c4 hcap1 hlb
    have c1 : w.cell? ⟨t, 1, none⟩ = some (.int .i64 s.holder) := h.blk.cell 1
    have c2 : w.cell? ⟨t, 2, none⟩ = some (.int .i64 s.target) := h.blk.cell 2
    have f1 : w.frozen? ⟨t, 1, none⟩ = false := h.blk.frozen 1
    have f2 : w.frozen? ⟨t, 2, none⟩ = false := h.blk.frozen 2
    have A1 := h.setHolder (-1)
    have A2 := TAt.setTarget (s := { s with holder := -1 }) A1 x
    have HA2 := Lib.hid A2
    have HC2 : Hid (Chg (fun k => ¬ S k) w ((w.setCell ⟨t, 1, none⟩ (.int .i64 (-1))).setCell ⟨t, 2, none⟩ (.int .i64 x))) := Lib.hid (((Chg.refl _ w).setCell (.inl h.tNotS) _).setCell (.inl h.tNotS) _)
    have HCT : Hid (Chg (fun k => k = t) w ((w.setCell ⟨t, 1, none⟩ (.int .i64 (-1))).setCell ⟨t, 2, none⟩ (.int .i64 x))) := Lib.hid (((Chg.refl (fun k => k = t) w).setCell (p := ⟨t, 1, none⟩) (.inl rfl) _).setCell (p := ⟨t, 2, none⟩) (.inl rfl) _)
    have HVN : Hid (V .nodes = .slice (some ⟨g, 0, none⟩) s.n cN) := Lib.hid vN
    have HTS := Lib.hid h.tNotS
    obtain ⟨off, hoff, hoff2⟩ := tail_off gM 1 cap m hcap1
    rw [hMv] at hown
    have hrd : Rd (fun b => b = gM) w (.slice (some ⟨gM, off, none⟩) m (cap - 1)) l := Rd.tail (S := fun b => b = gM) hown hm.out hoff2 rfl (cap - 1) (by omega)
    have HCL := Lib.hid (clone_any _ _ l _ (hrd.keep HCT.out (fun b hb e => nt (by rw [← hb]; exact e))) (by rw [hm.out]; omega))
    rw [hm.out] at HCL
    have hm2 : (1 : Int) ≤ (m : Int) + 1 := by omega
    have hm3 : (0 : Int) < (m : Int) + 1 := by omega
    clear h vN hQ hQb hMv hown hMc hcap hlen A1 A2 hrd hoff2 hq
    go_enter Tryd.func29, Tryd.ntmps29
    go_wp2_with fail
    refine HCL.out.mono ?_
    rintro e w3 ⟨v', rfl, hown1, hcc⟩
    obtain ⟨va, vc, rfl⟩ := owns_val hown1
    have A3 := TAt.setQueue (s := { s with holder := -1, target := x }) HA2.out (hcc.mono fun _ _ => False.elim) (.slice va m vc) l (by rw [hm.out]; exact owns_zero hown1) (fun b hb => .inr (hown1.lt b hb).1)
    have HA3 := Lib.hid A3
    have e4 : w3.cell? ⟨t, 4, none⟩ = some (V .queue) := (Mem.more HA2.out hcc).blk.cell 4
    have g4 : w3.frozen? ⟨t, 4, none⟩ = false := (Mem.more HA2.out hcc).blk.frozen 4
    have HC3 := Lib.hid ((HC2.out.trans hcc.ofNo).setCell (p := ⟨t, 4, none⟩) (.inl HTS.out) (.slice va m vc))
    clear A3 hown1 hcc c1 c2 c4 f1 f2 cX hoff
    go_wp2
    go_end0
    exact ⟨rfl, by rw [hE.out]; exact ⟨_, _, ⟨cN, by rw [upd_ne V _ (by simp)]; exact HVN.out⟩, HA3.out⟩, HC3.out⟩

structure Sane (s : TNet) : Prop where
  n0 : 0 < s.n
  n4 : s.n ≤ 4
  len : ∀ p q, p < s.n → q < s.n → (s.ways p q).length < 1000
  had : ∀ p q, p < s.n → q < s.n → 0 ≤ s.had q p ∧ s.had q p ≤ 1000
  srv : ∀ p, p < s.n → 0 ≤ s.served p ∧ s.served p ≤ 1000
  que : s.queue.length < 500
  hold : (s.holder = -1 ∧ ∃ k : Nat, s.target = k ∧ k < s.n) ∨ ∃ k : Nat, s.holder = k ∧ k < s.n

theorem TInv.sane {s : TNet} (h : TInv s) (hm : msgs s ≤ 900) : Sane s := by
  refine ⟨h.n1, h.n4, fun p q hp hq => ?_, fun p q hp hq => ?_, fun p hp => ⟨h.srv p hp, ?_⟩, ?_, ?_⟩
  · have := way_le (s := s) hp hq; omega
  · have h1 := h.knw p q hp hq
    have h2 := h.top p hp
    omega
  · have h2 := h.top p hp
    by_cases hx : s.asks p = true ∨ s.inn p = true
    · have := h.act p hp hx; omega
    · have ha1 : s.asks p = false := by
        cases hb : s.asks p with
        | false => rfl
        | true => exact absurd (.inl hb) hx
      have ha2 : s.inn p = false := by
        cases hb : s.inn p with
        | false => rfl
        | true => exact absurd (.inr hb) hx
      have := h.idle p hp ha1 ha2; omega
  · have h1 : (s.queue.map Int.toNat).length ≤ s.n := by
      refine nodup_le s.n _ ?_ (fun x hx => ?_)
      · rw [List.nodup_iff_pairwise_ne, List.pairwise_map]
        refine List.Pairwise.imp_of_mem ?_ (List.nodup_iff_pairwise_ne.1 h.qnd)
        intro a b ha hb hab e
        obtain ⟨x, rfl, _⟩ := h.que a ha
        obtain ⟨y, rfl, _⟩ := h.que b hb
        simp at e
        exact hab (by rw [e])
      · obtain ⟨y, hy, rfl⟩ := List.mem_map.1 hx
        obtain ⟨z, rfl, hz, _⟩ := h.que y hy
        rw [Int.toNat_natCast]; exact hz
    rw [List.length_map] at h1
    have := h.n4; omega
  · rcases h.hold with ⟨h1, k, h2, h3, _⟩ | h1
    · exact .inl ⟨h1, k, h2, h3⟩
    · exact .inr h1

set_option maxHeartbeats 2000000 in
set_option maxRecDepth 100000 in
theorem bring_any (S : Nat → Prop) (w : World) (t g : Nat) (s : TNet) (h : TIn S w t g s) (hs : Sane s) :
    Calls Tryd.prog 14 #[.pointer (some ⟨t, 0, none⟩)] w (ErrPost S w t g s.bringErr s.bring) := by
  have HIN := Lib.hid h
  obtain ⟨V, tag, ⟨cN, vN⟩, h⟩ := h
  obtain ⟨hcell, hfr, htN, hSg, c0⟩ := h.nodeAt vN
  have c1 : w.cell? ⟨t, 1, none⟩ = some (.int .i64 s.holder) := h.blk.cell 1
  have c2 : w.cell? ⟨t, 2, none⟩ = some (.int .i64 s.target) := h.blk.cell 2
  have f1 : w.frozen? ⟨t, 1, none⟩ = false := h.blk.frozen 1
  have htg : ¬ t = g := fun e => htN e.symm
  rcases hs.hold with ⟨hh, k, hk, hkn⟩ | ⟨k, hh, hkn⟩
  · have hE : Hid (s.bringErr = 0) := Lib.hid (by unfold TNet.bringErr; rw [if_neg (by omega)])
    have hG : Hid (s.bring = { s with holder := k, asks := put1 s.asks k false, inn := put1 s.inn k true }) := Lib.hid (by unfold TNet.bring; rw [if_pos hE.out]; unfold TNet.bring0; rw [hk, Int.toNat_natCast])
    rw [hh] at c1
    rw [hk] at c2
    obtain ⟨d0, d1, _⟩ := hcell k hkn
    have g0 : w.frozen? ⟨g, k * 3, none⟩ = false := hfr _
    have g1 : w.frozen? ⟨g, k * 3 + 1, none⟩ = false := hfr _
    have A1 := h.setHolder (k : Int)
    have b1 : (w.setCell ⟨t, 1, none⟩ (.int .i64 (k : Int))).cell? ⟨t, 1, none⟩ = some (.int .i64 (k : Int)) := A1.blk.cell 1
    obtain ⟨hcell1, hfr1, _, _, b0⟩ := A1.nodeAt vN
    obtain ⟨e0, e1, _⟩ := hcell1 k hkn
    have i0 : (w.setCell ⟨t, 1, none⟩ (.int .i64 (k : Int))).frozen? ⟨g, k * 3, none⟩ = false := hfr1 _
    have i1 : (w.setCell ⟨t, 1, none⟩ (.int .i64 (k : Int))).frozen? ⟨g, k * 3 + 1, none⟩ = false := hfr1 _
    have HSET := Lib.hid (fun (w3 : World) (hc : Chg NoF (w.setCell ⟨t, 1, none⟩ (.int .i64 (k : Int))) w3) => TAt.setAsks (Mem.more A1 hc) vN hkn false)
    have HVN := Lib.hid vN
    have HSG := Lib.hid hSg
    have HT := Lib.hid h.tNotS
    have HKN := Lib.hid hkn
    obtain ⟨n, hN⟩ : ∃ n, Hid (s.n = n) := ⟨_, Lib.hid rfl⟩
    have b0 : (w.setCell ⟨t, 1, none⟩ (.int .i64 (k : Int))).cell? ⟨t, 0, none⟩ = some (.slice (some ⟨g, 0, none⟩) s.n cN) := b0
    have e0 : (w.setCell ⟨t, 1, none⟩ (.int .i64 (k : Int))).cell? ⟨g, k * 3, none⟩ = some (.bool (s.asks k)) := e0
    have e1 : (w.setCell ⟨t, 1, none⟩ (.int .i64 (k : Int))).cell? ⟨g, k * 3 + 1, none⟩ = some (.bool (s.inn k)) := e1
    rw [hN.out] at c0 b0 hkn
    have hk1 : (k : Int) < n := by omega
    have B0 := Lib.hid b0
    have B1 := Lib.hid b1
    have E0 := Lib.hid e0
    have E1 := Lib.hid e1
    have I0 := Lib.hid i0
    have I1 := Lib.hid i1
    clear hcell hfr h vN hSg hs hh hk A1 hcell1 hfr1 d0 d1 g0 g1 b0 b1 e0 e1 i0 i1
    have hm1 : ¬ (0 : Int) ≤ -1 := by omega
    go_enter Tryd.func14, Tryd.ntmps14
    go_wp2_with fail
    have b0 := B0.out
    have b1 := B1.out
    refine wp_region_plan (Chg (fun b => b = g) _) 21 [(0,true),(1,true),(2,true),(3,true),(4,true),(5,true),(6,true),(7,true),(8,true),(9,true),(10,true),(11,true),(12,true),(13,true),(14,true),(15,true),(16,true),(17,true),(18,false),(19,true),(20,true),(21,false)] mixed (by kernel_rfl) (Chg.refl _ _).drew ?_
    simp only [planOps, List.map_cons, List.map_nil, List.getElem?_cons_zero, List.getElem?_cons_succ, Option.getD_some]
    generalize hops : List.toArray _ = ops
    iterate 18 (refine wpPlan_quiet (v := ?_) rfl (fun _ _ _ h => h) (by intro w1 hS; have s0 := hS.cell_some b0 htg; have s1 := hS.cell_some b1 htg; clear hS; go_simp; with_reducible rfl) ?_; (simp only [Act.put, List.setIfInBounds_toArray, List.set_cons_zero, List.set_cons_succ]))
    refine wpPlan_loud rfl (fun K hK => ?_)
    have e0 := E0.out
    have i0 := I0.out
    go_simp
    refine hK _ _ (fun _ => ((Chg.refl (fun b => b = g) _).setCell (p := ⟨g, k * 3, none⟩) (.inl rfl) _).drew) ?_
    clear hK K
    (try simp only [Act.put, List.setIfInBounds_toArray, List.set_cons_zero, List.set_cons_succ])
    iterate 2 (refine wpPlan_quiet (v := ?_) rfl (fun _ _ _ h => h) (by intro w1 hS; have s0 := hS.cell_some b0 htg; have s1 := hS.cell_some b1 htg; clear hS; go_simp; with_reducible rfl) ?_; (simp only [Act.put, List.setIfInBounds_toArray, List.set_cons_zero, List.set_cons_succ]))
    refine wpPlan_loud rfl (fun K hK => ?_)
    have e1 := E1.out
    have i1 := I1.out
    go_simp
    refine hK _ _ (fun h => absurd rfl h) ?_
    clear hK K
    clear hops
    refine wpPlan_nil ?_
    have A2 := HSET.out _ (Chg.refl NoF _)
    have A3 := TAt.setInn (s := { s with holder := (k : Int), asks := put1 s.asks k false }) A2 HVN.out HKN.out true
    have HA3 := Lib.hid A3
    clear b0 b1 e0 e1 i0 i1 A2 A3
    go_wp2
    go_ret
    exact ⟨by rw [hE.out]; rfl, by rw [hG.out]; exact ⟨V, tag, ⟨cN, HVN.out⟩, Mem.more HA3.out ((Chg.refl NoF _).drew)⟩, ((((Chg.refl _ w).setCell (.inl HT.out) _).setCell (.inl HSG.out) _).setCell (.inl HSG.out) _).drew⟩
  · have hE : Hid (s.bringErr = 5) := Lib.hid (by unfold TNet.bringErr; rw [if_pos (by omega)])
    have hG : Hid (s.bring = s) := Lib.hid (by unfold TNet.bring; rw [if_neg (by rw [hE.out]; omega)])
    have h0 : (0 : Int) ≤ s.holder := by omega
    obtain ⟨hd, HD⟩ : ∃ x, Hid (s.holder = x) := ⟨_, Lib.hid rfl⟩
    rw [HD.out] at c1 h0
    clear hcell hfr h vN hSg hs hh
    go_enter Tryd.func14, Tryd.ntmps14
    go_wp2
    go_ret
    exact ⟨by rw [hE.out]; rfl, by rw [hG.out]; exact HIN.out, Chg.refl _ _⟩

end Go.Proofs.YthblnljjhbdejaaDoor
