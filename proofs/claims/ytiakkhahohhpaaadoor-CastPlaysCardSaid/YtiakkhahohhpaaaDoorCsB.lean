/-
  The net that tells all of all: what is told of it, and keeping a note.
  Conditions: a net as New made it, behind any deeds.
-/
import Derived.Test.YtiakkhahohhpaaaDoorCsA
import Derived.Test.YtiakkhahohhpaaaDoorFind
import Derived.Test.YtiakkhahohhpaaaDoorClone
import Derived.Test.YtiakkhahohhpaaaDoorLaws
namespace Go.Proofs.YtiakkhahohhpaaaDoor
open Go Go.RowKit

theorem CInv.got_le {s : CNet} {o : Nat} (h : CInv s o) {p : Nat} (hp : p < s.n) : (s.got p).length ≤ s.m := by
  have := nodup_le s.m ((s.got p).map Int.toNat) ?_ (fun x hx => ?_)
  · rw [List.length_map] at this; exact this
  · rw [List.nodup_iff_pairwise_ne, List.pairwise_map]
    refine List.Pairwise.imp_of_mem ?_ (h.gotN p hp)
    intro x y hx hy hl e
    obtain ⟨i, rfl, _⟩ := h.gotL p hp x hx
    obtain ⟨j, rfl, _⟩ := h.gotL p hp y hy
    rw [Int.toNat_natCast, Int.toNat_natCast] at e
    subst e; exact hl rfl
  · obtain ⟨y, hy, rfl⟩ := List.mem_map.1 hx
    obtain ⟨j, rfl, hj⟩ := h.gotL p hp y hy
    rw [Int.toNat_natCast]; exact hj

theorem CNet.is_inB (s : CNet) (p : Int) : s.is p = inB p 0 ((s.n : Int) - 1) := rfl
theorem CNet.isNote_inB (s : CNet) (k : Int) : s.isNote k = inB k 0 ((s.m : Int) - 1) := rfl

set_option maxHeartbeats 1000000 in
theorem is_any (S : Nat → Prop) (w : World) (t : Nat) (s : CNet) (h : CIn S w t s) (hn1 : 1 ≤ s.n) (hn : s.n ≤ 4) (p : Int) :
    Calls Tryd.prog 21 #[.pointer (some ⟨t, 0, none⟩), .int .i64 p] w fun e w' => e = .returned (.bool (s.is p)) ∧ w = w' := by
  obtain ⟨V, tag, h⟩ := h
  obtain ⟨g, cap, -, c1⟩ := h.hadsAt hn1
  rw [s.is_inB]
  obtain ⟨n, hN⟩ : ∃ n, Hid (s.n = n) := ⟨_, Lib.hid rfl⟩
  rw [hN.out] at c1 hn ⊢
  clear h hn1
  go_enter Tryd.func21, Tryd.ntmps21
  go_wp2_with fail
  refine (within_any _ _ _ _).mono ?_
  rintro e w' ⟨rfl, rfl⟩
  go_wp2
  go_ret
  exact ⟨rfl, rfl⟩

def GotPost (w : World) (l : List Int) (e : Ending) (w' : World) : Prop := ∃ v, e = .returned v ∧ w'.ownsRow w.heap.size 3 1 v l.length (l.map (.int .i64)) ∧ Chg NoF w w'

set_option maxHeartbeats 2000000 in
theorem got_any (S : Nat → Prop) (w : World) (t : Nat) (s : CNet) {o : Nat} (h : CIn S w t s) (hs : CInv s o) (p : Int) :
    Calls Tryd.prog 10 #[.pointer (some ⟨t, 0, none⟩), .int .i64 p] w (GotPost w (s.gotOf p)) := by
  have HIS := Lib.hid (is_any S w t s h hs.n1 hs.n4 p)
  cases hip : s.is p with
  | false =>
    have HO : Hid (s.gotOf p = []) := Lib.hid (by unfold CNet.gotOf; rw [if_neg (by rw [hip]; simp)])
    rw [HO.out]
    rw [hip] at HIS
    clear h hs hip HO
    go_enter Tryd.func10, Tryd.ntmps10
    go_wp2_with fail
    refine HIS.out.mono ?_
    rintro e w' ⟨rfl, rfl⟩
    go_wp2
    go_ret
    exact ⟨_, rfl, World.ownsRow_nil _ _ _ _, Chg.refl _ _⟩
  | true =>
    have HO : Hid (s.gotOf p = s.got p.toNat) := Lib.hid (by unfold CNet.gotOf; rw [if_pos hip])
    rw [HO.out]
    rw [hip] at HIS
    obtain ⟨a, rfl, ha⟩ := (s.is_iff p).1 hip
    rw [Int.toNat_natCast]
    have hgl := hs.got_le ha
    have hm := hs.m20
    have hn := hs.n4
    obtain ⟨V, tag, h⟩ := h
    obtain ⟨g, cap, -, c2, dg, -, -, -, -, hrow, ⟨a1, cc, hv⟩, -⟩ := h.gotAt ha
    have HCL := Lib.hid (clone_any (fun _ => True) _ (s.got a) w (Rd.ofOwns hrow (fun _ _ => trivial)) (by omega))
    rw [hv] at dg HCL
    obtain ⟨l, HL⟩ : ∃ l, Hid (s.got a = l) := ⟨_, Lib.hid rfl⟩
    rw [HL.out] at dg HCL ⊢
    obtain ⟨n, hN⟩ : ∃ n, Hid (s.n = n) := ⟨_, Lib.hid rfl⟩
    rw [hN.out] at c2 hn ha
    have ha1 : (a : Int) < n := by omega
    clear h hs hip hrow hv hgl hm HO
    go_enter Tryd.func10, Tryd.ntmps10
    go_wp2_with fail
    refine HIS.out.mono ?_
    rintro e w' ⟨rfl, rfl⟩
    go_wp2_with fail
    refine HCL.out.mono ?_
    rintro e w3 ⟨v', rfl, hown1, hcc⟩
    obtain ⟨va, vc, rfl⟩ := owns_val hown1
    have HOWN := Lib.hid hown1
    have HCC := Lib.hid hcc
    clear hown1 hcc c2 dg
    go_wp2
    go_ret
    exact ⟨_, rfl, HOWN.out, HCC.out⟩

/-- What is told of a note. -/
def CNet.byOf (s : CNet) (k : Int) : Int := if s.isNote k = true then s.bys k.toNat else -1
def CNet.vecOf (s : CNet) (k : Int) : List Int := if s.isNote k = true then (List.range s.n).map (s.vec k.toNat) else []
def NotePost (w : World) (b : Int) (l : List Int) (e : Ending) (w' : World) : Prop := ∃ v, e = .returned (.tuple #[.int .i64 b, v]) ∧ w'.ownsRow w.heap.size 3 1 v l.length (l.map (.int .i64)) ∧ Chg NoF w w'

set_option maxHeartbeats 4000000 in
set_option maxRecDepth 100000 in
theorem note_any (S : Nat → Prop) (w : World) (t : Nat) (s : CNet) {o : Nat} (h : CIn S w t s) (hs : CInv s o) (k : Int) :
    Calls Tryd.prog 14 #[.pointer (some ⟨t, 0, none⟩), .int .i64 k] w (NotePost w (s.byOf k) (s.vecOf k)) := by
  have hm := hs.m20
  cases hik : s.isNote k with
  | false =>
    have HO : Hid (s.byOf k = -1 ∧ s.vecOf k = []) := Lib.hid (by unfold CNet.byOf CNet.vecOf; rw [if_neg (by rw [hik]; simp), if_neg (by rw [hik]; simp)]; exact ⟨rfl, rfl⟩)
    rw [HO.out.1, HO.out.2]
    obtain ⟨V, tag, h⟩ := h
    obtain ⟨-, c0, -, ga, gc, hv⟩ := h.notesAt
    rw [hv] at c0
    rw [s.isNote_inB] at hik
    obtain ⟨m, hM⟩ : ∃ m, Hid (s.m = m) := ⟨_, Lib.hid rfl⟩
    rw [hM.out] at c0 hm hik
    have HIK := Lib.hid hik
    clear h hs hv hik HO
    go_enter Tryd.func14, Tryd.ntmps14
    go_wp2_with fail
    refine (within_any _ _ _ _).mono ?_
    rintro e w' ⟨rfl, rfl⟩
    rw [HIK.out]
    go_wp2
    go_ret2
    exact ⟨_, rfl, World.ownsRow_nil _ _ _ _, Chg.refl _ _⟩
  | true =>
    have HO : Hid (s.byOf k = s.bys k.toNat ∧ s.vecOf k = (List.range s.n).map (s.vec k.toNat)) := Lib.hid (by unfold CNet.byOf CNet.vecOf; rw [if_pos hik, if_pos hik]; exact ⟨rfl, rfl⟩)
    rw [HO.out.1, HO.out.2]
    obtain ⟨b, rfl, hb⟩ := (s.isNote_iff k).1 hik
    rw [Int.toNat_natCast]
    obtain ⟨V, tag, h⟩ := h
    obtain ⟨g, cap, bV, cV, -, hvv, c0, e0, e1, hcell, hcc, hcm⟩ := h.noteAt hb hs.n1
    have hrow := h.row (.vec b)
    rw [s.rowsV s.n V hb] at hrow
    have hrow : w.ownsRow 0 3 1 (V (.vec b)) s.n ((List.range s.n).map fun q => .int .i64 (s.vec b q)) := hrow
    rw [hvv] at hrow
    have e4 : ((List.range s.n).map fun q => Value.int .i64 (s.vec b q)) = ((List.range s.n).map (s.vec b)).map (.int .i64) := by rw [List.map_map]; rfl
    rw [e4] at hrow
    have hlen : ((List.range s.n).map (s.vec b)).length = s.n := by simp
    have hn := hs.n4
    have HCL := Lib.hid (fun w1 (hc : Chg NoF w w1) => clone_any (fun _ => True) (.slice (some ⟨bV, 0, none⟩) s.n cV) ((List.range s.n).map (s.vec b)) w1 (Rd.ofOwns (hc.row hrow (fun _ _ h => h)) (fun _ _ => trivial)) (by rw [hlen]; omega))
    obtain ⟨l, HL⟩ : ∃ l, Hid ((List.range s.n).map (s.vec b) = l) := ⟨_, Lib.hid rfl⟩
    rw [HL.out] at HCL ⊢
    obtain ⟨y, HY⟩ : ∃ y, Hid (s.bys b = y) := ⟨_, Lib.hid rfl⟩
    rw [HY.out] at e0 ⊢
    rw [s.isNote_inB] at hik
    obtain ⟨m, hM⟩ : ∃ m, Hid (s.m = m) := ⟨_, Lib.hid rfl⟩
    obtain ⟨n, hN⟩ : ∃ n, Hid (s.n = n) := ⟨_, Lib.hid rfl⟩
    rw [hM.out] at c0 hm hik hb
    rw [hN.out] at e1 HCL
    have HIK := Lib.hid hik
    have hb1 : (b : Int) < m := by omega
    clear h hs hvv hik HO hrow e4 hlen hcell hcc hcm hn
    go_enter Tryd.func14, Tryd.ntmps14
    go_wp2_with fail
    refine (within_any _ _ _ _).mono ?_
    rintro e w' ⟨rfl, rfl⟩
    rw [HIK.out]
    go_wp2_with fail
    refine wp_region_plan (Chg NoF w) 19 [(0,true),(1,true),(2,true),(3,true),(4,true),(5,true),(6,true),(7,true),(8,true),(9,true),(10,true),(11,true),(12,true),(13,true),(14,true),(15,true),(16,false),(17,true),(18,true)] mixed (by kernel_rfl) (Chg.refl _ _).drew ?_
    simp only [planOps, List.map_cons, List.map_nil, List.getElem?_cons_zero, List.getElem?_cons_succ, Option.getD_some]
    generalize hops : List.toArray _ = ops
    iterate 16 (refine wpPlan_quiet (v := ?_) rfl (fun _ _ _ h => h) (by intro w1 hS; have s0 := hS.cell_some c0 (fun h => h); have s1 := hS.cell_some e0 (fun h => h); have s2 := hS.cell_some e1 (fun h => h); clear hS; go_simp; with_reducible rfl) ?_; (simp only [Act.put, List.setIfInBounds_toArray, List.set_cons_zero, List.set_cons_succ]))
    refine wpPlan_loud rfl (fun K hK => ?_)
    go_simp
    refine (HCL.out w.drew ((Chg.refl NoF w).drew)).mono ?_
    rintro e w3 ⟨v', rfl, hown1, hcc⟩
    have hc3 : Chg NoF w w3 := ((Chg.refl NoF w).drew).trans hcc
    refine hK _ _ (fun _ => hc3) ?_
    clear hK K
    (try simp only [Act.put, List.setIfInBounds_toArray, List.set_cons_zero, List.set_cons_succ])
    iterate 2 (refine wpPlan_quiet (v := ?_) rfl (fun _ _ _ h => h) (by intro w1 hS; clear hS; go_simp; with_reducible rfl) ?_; (simp only [Act.put, List.setIfInBounds_toArray, List.set_cons_zero, List.set_cons_succ]))
    clear hops
    refine wpPlan_nil ?_
    have HOWN := Lib.hid hown1
    have HCC := Lib.hid hc3
    clear hown1 hcc hc3 c0 e0 e1
    go_wp2
    go_ret2
    exact ⟨_, rfl, HOWN.out, HCC.out⟩

def DonePost (S : Nat → Prop) (w : World) (t : Nat) (s' : CNet) (e : Ending) (w' : World) : Prop :=
  e = .returned (.tuple #[]) ∧ CIn S w' t s' ∧ Chg (fun k => ¬ S k) w w'

set_option maxHeartbeats 4000000 in
set_option maxRecDepth 100000 in
theorem keep_any (S : Nat → Prop) (w : World) (t : Nat) (s : CNet) {o : Nat} (h : CIn S w t s) (hs : CInv s o) (p k : Nat) (hp : p < s.n) (hk : k < s.m) :
    Calls Tryd.prog 23 #[.pointer (some ⟨t, 0, none⟩), .int .i64 p, .int .i64 k] w (DonePost S w t (s.keep p k)) := by
  have hby := hs.byl k hk
  have hh0 := hs.had0 p (s.bys k) hp hby
  have hhM := hs.hadM p (s.bys k) hp hby
  have hm := hs.m20
  have hn := hs.n4
  have hgl := hs.got_le hp
  obtain ⟨V, tag, h⟩ := h
  obtain ⟨gN, capN, bV, cV, -, -, c0, e0, -, -, -, -⟩ := h.noteAt hk hs.n1
  obtain ⟨gH, capH, bH, cH, vH, vB, c1, d1, hcell, hfr, hbt, hgt, hgb, hbS, -, -⟩ := h.hadAt hp
  have dB := hcell (s.bys k) hby
  have fB := hfr (s.bys k)
  have A1 := h.setHad hp vB hby (s.had p (s.bys k) + 1)
  obtain ⟨x, HX⟩ : ∃ x, Hid (s.had p (s.bys k) = x) := ⟨_, Lib.hid rfl⟩
  obtain ⟨y, HY⟩ : ∃ y, Hid (s.bys k = y) := ⟨_, Lib.hid rfl⟩
  have HK : Hid (s.keep p k = { s with had := put2 s.had p y (x + 1), got := put1 s.got p (s.got p ++ [(k : Int)]) }) := Lib.hid (by unfold CNet.keep; rw [HX.out, HY.out])
  rw [HX.out, HY.out] at A1
  rw [HK.out]
  have hA2 := fun w4 (A2 : CAt S w4 t { s with had := put2 s.had p y (x + 1) } V tag) => A2.gotAt (p := p) hp
  have HA2 := Lib.hid hA2
  have HSET := Lib.hid (fun w4 (A2 : CAt S w4 t { s with had := put2 s.had p y (x + 1) } V tag) g cap (hg : V .gots = .slice (some ⟨g, 0, none⟩) s.n cap) (w5 : World) hc => CAt.setGot (w1 := w5) A2 (p := p) hg hp hc)
  have HA1 := Lib.hid A1
  have HC1 : Hid (Chg (fun k => ¬ S k) w (w.setCell ⟨bH, y, none⟩ (.int .i64 (x + 1)))) := Lib.hid ((Chg.refl _ w).setCell (.inl hbS) _)
  rw [HX.out] at dB hh0 hhM
  rw [HY.out] at dB fB e0 hby
  obtain ⟨gl, HGL⟩ : ∃ gl, Hid (s.got p = gl) := ⟨_, Lib.hid rfl⟩
  rw [HGL.out] at hgl ⊢
  obtain ⟨n, hN⟩ : ∃ n, Hid (s.n = n) := ⟨_, Lib.hid rfl⟩
  obtain ⟨m, hM⟩ : ∃ m, Hid (s.m = m) := ⟨_, Lib.hid rfl⟩
  rw [hN.out] at c1 d1 hp hby hn
  rw [hM.out] at c0 hk hhM hm hgl
  have hp1 : (p : Int) < n := by omega
  have hk1 : (k : Int) < m := by omega
  have hy1 : (y : Int) < n := by omega
  have hw1 : IntKind.i64.wrap (x + 1) = x + 1 := IntWalk.i64_in _ (by omega)
  have hw2 : wrap64 (x + 1) = x + 1 := IntWalk.wrap64_in _ (by omega)
  have hgl20 : gl.length ≤ 20 := by omega
  clear h hs vH vB hcell hfr A1 hA2 hbS hh0 hhM hgl hn hm
  go_enter Tryd.func23, Tryd.ntmps23
  go_wp2_with fail
  refine wp_region_plan (Chg NoF w) 19 [(0,true),(1,true),(2,true),(3,true),(4,true),(5,true),(6,true),(7,true),(8,true),(9,true),(10,true),(11,true),(12,true),(13,true),(14,true),(15,true),(16,true),(17,true),(18,true),(19,false)] mixed (by kernel_rfl) (Chg.refl _ _).drew ?_
  simp only [planOps, List.map_cons, List.map_nil, List.getElem?_cons_zero, List.getElem?_cons_succ, Option.getD_some]
  generalize hops : List.toArray _ = ops
  iterate 19 (refine wpPlan_quiet (v := ?_) rfl (fun _ _ _ h => h) (by intro w1 hS; have s0 := hS.cell_some c0 (fun h => h); have s1 := hS.cell_some e0 (fun h => h); have s2 := hS.cell_some c1 (fun h => h); have s3 := hS.cell_some d1 (fun h => h); have s4 := hS.cell_some dB (fun h => h); clear hS; go_simp; with_reducible rfl) ?_; (simp only [Act.put, List.setIfInBounds_toArray, List.set_cons_zero, List.set_cons_succ]))
  refine wpPlan_loud rfl (fun K hK => ?_)
  go_simp
  refine hK _ _ (fun h => absurd rfl h) ?_
  clear hK K
  clear hops
  refine wpPlan_nil ?_
  clear c0 e0 c1 d1 dB fB hw1 hw2 hby hbt hgt hgb
  have HW4 : Hid (CAt S ((w.setCell ⟨bH, y, none⟩ (.int .i64 (x + 1))).drew) t { s with had := put2 s.had p y (x + 1) } V tag) := Lib.hid (Mem.more HA1.out ((Chg.refl NoF _).drew))
  have HC4 : Hid (Chg (fun k => ¬ S k) w ((w.setCell ⟨bH, y, none⟩ (.int .i64 (x + 1))).drew)) := Lib.hid (HC1.out.drew)
  generalize (w.setCell _ _).drew = w4 at *
  obtain ⟨g, cap, hvg, c2, dg, fg, ngt, hgS, hglt, hrow, ⟨a1, cc, hv⟩, hgb⟩ := HA2.out w4 HW4.out
  have HSETG := Lib.hid (fun w5 => HSET.out w4 HW4.out g cap hvg w5)
  have HNS := Lib.hid (fun b (hb : (V (.got p)).ownBlock = some b) => (hgb b hb).2.1)
  have HGS := Lib.hid hgS
  have ng : ¬ (V (.got p)).ownBlock = some g := fun e => (hgb g e).2.2.2 rfl
  have nt : ¬ (V (.got p)).ownBlock = some t := fun e => (hgb t e).2.2.1 rfl
  have hv : V (.got p) = .slice a1 (s.got p).length cc := hv
  have hrow : w4.ownsRow 0 3 1 (V (.got p)) (s.got p).length ((s.got p).map (.int .i64)) := hrow
  have c2 : w4.cell? ⟨t, 2, none⟩ = some (.slice (some ⟨g, 0, none⟩) s.n cap) := c2
  rw [hv] at dg hrow ng nt HSETG HNS
  rw [HGL.out] at dg hrow ng nt HSETG HNS
  rw [hN.out] at c2
  clear hv hgb hgS HA2 HSET HW4 HA1 HC1 hvg
  go_wp2_with fail
  refine wp_region_plan (Chg (fun b => (Value.slice a1 gl.length cc).ownBlock = some b) w4) 16 [(0,true),(1,true),(2,true),(3,true),(4,true),(5,true),(6,true),(7,true),(8,true),(9,true),(10,true),(11,true),(12,true),(13,false),(14,false),(15,true),(16,false)] mixed (by kernel_rfl) (Chg.refl _ _).drew ?_
  simp only [planOps, List.map_cons, List.map_nil, List.getElem?_cons_zero, List.getElem?_cons_succ, Option.getD_some]
  generalize hops : List.toArray _ = ops
  iterate 13 (refine wpPlan_quiet (v := ?_) rfl (fun _ _ _ h => h) (by intro w1 hS; have s0 := hS.cell_some c2 nt; have s1 := hS.cell_some dg ng; clear hS; go_simp; with_reducible rfl) ?_; (simp only [Act.put, List.setIfInBounds_toArray, List.set_cons_zero, List.set_cons_succ]))
  refine wpPlan_loud rfl (fun K hK => ?_)
  go_simp
  refine hK _ _ (fun _ => ((Chg.refl _ w4).drew).alloc _) ?_
  clear hK K
  (try simp only [Act.put, List.setIfInBounds_toArray, List.set_cons_zero, List.set_cons_succ])
  refine wpPlan_loud rfl (fun K hK => ?_)
  refine wp_app _ _ 29 rfl 3 (.int .i64 0) 1 8 infoInt Tryd.underlying29 rfl (by decide) (.slice a1 gl.length cc) gl.length _ (by rfl) ((((Chg.refl NoF w4).drew).alloc _).row hrow (fun _ _ hf => hf)) w4.heap.size 1 [.int .i64 k] (by rfl) ⟨3, (0, 0), heap_alloc_new w4.drew _⟩ rfl (by simp [Value.oneCell']) (by omega) (by omega) ?_
  intro g4 cap4 w5 hown4 hc4 hat4 hlt4
  have hc5 : Chg (fun b => (Value.slice a1 gl.length cc).ownBlock = some b) w4 w5 := ((((Chg.refl NoF w4).drew).alloc _).ofNo).trans hc4
  refine hK _ _ (fun _ => hc5) ?_
  clear hK K
  (try simp only [Act.put, List.setIfInBounds_toArray, List.set_cons_zero, List.set_cons_succ])
  (refine wpPlan_quiet (v := ?_) rfl (fun _ _ _ h => h) (by intro w1 hS; clear hS; go_simp; with_reducible rfl) ?_; (simp only [Act.put, List.setIfInBounds_toArray, List.set_cons_zero, List.set_cons_succ]))
  refine wpPlan_loud rfl (fun K hK => ?_)
  have s2 := hc5.cell_some dg ng
  have f2 : w5.frozen? ⟨g, p, none⟩ = false := by rw [World.frozen?_of_block (hc5.block g hglt ng)]; exact fg
  go_simp
  refine hK _ _ (fun h => absurd rfl h) ?_
  clear hK K
  clear hops
  refine wpPlan_nil ?_
  have A6 := HSETG.out w5 hc5 (.slice (some ⟨g4, 0, none⟩) (gl.length + 1) cap4) (gl ++ [(k : Int)]) (by simpa using hown4) (fun b hb => by
    rcases hat4 b hb with h1 | h1
    · exact .inl h1
    · right; exact Nat.le_trans (((Chg.refl NoF w4).drew).alloc _).size h1)
  have HI : Hid (CIn S (w5.setCell ⟨g, p, none⟩ (.slice (some ⟨g4, 0, none⟩) (gl.length + 1) cap4)) t { s with had := put2 s.had p y (x + 1), got := put1 s.got p (gl ++ [(k : Int)]) }) := Lib.hid ⟨_, _, A6⟩
  have HC : Hid (Chg (fun k => ¬ S k) w (w5.setCell ⟨g, p, none⟩ (.slice (some ⟨g4, 0, none⟩) (gl.length + 1) cap4))) := Lib.hid (HC4.out.trans ((hc5.mono fun b _ hb => HNS.out b hb).setCell (.inl HGS.out) _))
  clear A6 hc5 hown4 hat4 hlt4 hc4 c2 dg fg nt ng hrow s2 f2 HSETG
  generalize w5.setCell ⟨g, p, none⟩ _ = w6 at *
  go_wp2
  go_end0
  exact ⟨rfl, HI.out, HC.out⟩

end Go.Proofs.YtiakkhahohhpaaaDoor
