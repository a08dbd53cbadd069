/-
  A count of what one may take, and who waits: in memory, and what is done to it.
  Conditions: one as New made it, behind fewer than a thousand deeds.
-/
import Derived.Test.YthieompmmpbioaaSkH
import Derived.Test.YthieompmmpbioaaDelete
namespace Go.Proofs.Ythieompmmpbioaa
open Go Go.RowKit

structure Qm where
  count : Int
  waits : List Int

def Qm.give (s : Qm) : Qm := match s.waits with | _ :: l => { s with waits := l } | [] => if s.count = 1000 then s else { s with count := s.count + 1 }
def Qm.take (s : Qm) (x : Int) : Qm := if inB x 0 7 = false then s else if s.waits.contains x = true then s else if 0 < s.count then { s with count := s.count - 1 } else { s with waits := s.waits ++ [x] }
def Qm.act (s : Qm) (x : Int) : Qm := if x % 3 = 0 then s.give else s.take (x % 8)
/-- Not more than so many, either of them. -/
def Qm.ok (s : Qm) (k : Nat) : Prop := 0 ≤ s.count ∧ s.count ≤ 1000 ∧ s.waits.length ≤ k

theorem Qm.ok.give {s : Qm} {k : Nat} (h : s.ok k) : s.give.ok k := by
  obtain ⟨c, l⟩ := s
  unfold Qm.ok at *
  cases l with
  | cons y l => simp [Qm.give] at *; omega
  | nil =>
    simp only [Qm.give]
    split
    · exact h
    · simp at *; omega
theorem Qm.ok.take {s : Qm} {k : Nat} (h : s.ok k) (x : Int) : (s.take x).ok (k + 1) := by
  unfold Qm.ok Qm.take at *
  split
  · omega
  split
  · omega
  split
  · simp; omega
  · simp; omega
theorem Qm.ok.act {s : Qm} {k : Nat} (h : s.ok k) (x : Int) : (s.act x).ok (k + 1) := by
  unfold Qm.act
  split
  · have := h.give; unfold Qm.ok at *; omega
  · exact h.take _

/-- It lies in its own block t, and its waits in one of their own. -/
def QIn (S : Nat → Prop) (w : World) (t : Nat) (s : Qm) : Prop := ∃ (V : Value) (tag : Nat → Option (Option Unit)), Mem S w t [.int .i64 s.count, V] (fun _ : Unit => ⟨3, 1, V, s.waits.length, s.waits.map (.int .i64)⟩) tag

theorem QIn.keep {S F : Nat → Prop} {w w1 : World} {t : Nat} {s : Qm} (h : QIn S w t s) (hc : Chg F w w1) (hF : ∀ b, F b → S b) : QIn S w1 t s := by
  obtain ⟨V, tag, h⟩ := h
  exact ⟨V, tag, Mem.keep h hc (fun b hb => (h.hS b (hF b hb)).1)⟩
theorem QIn.more {S : Nat → Prop} {w w1 : World} {t : Nat} {s : Qm} (h : QIn S w t s) (hc : Chg NoF w w1) : QIn S w1 t s := h.keep hc (fun _ hf => hf.elim)

def AnyPost (S : Nat → Prop) (w : World) (t : Nat) (s : Qm) (e : Ending) (w' : World) : Prop := (∃ a b, e = .returned (.tuple #[a, b])) ∧ QIn S w' t s ∧ Chg (fun k => ¬ S k) w w'

def QNew (w : World) (n : Int) (e : Ending) (w' : World) : Prop := ∃ t, e = .returned (.tuple #[.pointer (some ⟨t, 0, none⟩), .nilIface]) ∧ QIn (fun b => b < w.heap.size) w' t ⟨n, []⟩ ∧ Chg NoF w w'

set_option maxHeartbeats 1000000 in
theorem semNew_any (n : Int) (w : World) (hn : inB n 0 1000 = true) : Calls Try.prog 14 #[.int .i64 n] w (QNew w n) := by
  have HN := Lib.hid hn
  clear hn
  have HQ : Hid (QIn (fun b => b < w.heap.size) (w.alloc (.cells #[.int .i64 n, .slice none 0 0] 61)) w.heap.size ⟨n, []⟩) := Lib.hid ⟨.slice none 0 0, fun b => if b = w.heap.size then some none else none, {
    hS := fun b hb => by
      have hb : b < w.heap.size := hb
      exact ⟨if_neg (by omega), by simp; omega⟩
    ht := if_pos rfl
    blk := Blk.alloc w [.int .i64 n, .slice none 0 0] _
    row := fun i => World.ownsRow_nil _ _ _ _
    tg := fun i b hb => by cases hb }⟩
  have HC : Hid (Chg NoF w (w.alloc (.cells #[.int .i64 n, .slice none 0 0] 61))) := Lib.hid ((Chg.refl NoF w).alloc _)
  go_enter Try.func14, Try.ntmps14
  go_wp2_with fail
  refine (within_any _ _ _ _).mono ?_
  rintro e w' ⟨rfl, rfl⟩
  rw [HN.out]
  go_wp2
  go_ret2
  exact ⟨_, rfl, HQ.out, HC.out⟩

theorem semCount_any (S : Nat → Prop) (w : World) (t : Nat) (s : Qm) (h : QIn S w t s) : Calls Try.prog 15 #[.pointer (some ⟨t, 0, none⟩)] w fun e w' => e = .returned (.int .i64 s.count) ∧ w = w' := by
  obtain ⟨V, tag, h⟩ := h
  have c0 : w.cell? ⟨t, 0, none⟩ = some (.int .i64 s.count) := h.blk.cell 0
  clear h
  go_enter Try.func15, Try.ntmps15
  go_wp2
  go_ret
  exact ⟨rfl, rfl⟩

set_option maxHeartbeats 1000000 in
theorem semWaits_any (S : Nat → Prop) (w : World) (t : Nat) (s : Qm) (h : QIn S w t s) (hl : s.waits.length ≤ 1000) : Calls Try.prog 20 #[.pointer (some ⟨t, 0, none⟩)] w (GotPost w s.waits) := by
  obtain ⟨V, tag, h⟩ := h
  have c1 : w.cell? ⟨t, 1, none⟩ = some V := h.blk.cell 1
  have hrow : w.ownsRow 0 3 1 V s.waits.length (s.waits.map (.int .i64)) := h.row ()
  obtain ⟨l, HL⟩ : ∃ l, Hid (s.waits = l) := ⟨_, Lib.hid rfl⟩
  rw [HL.out] at hrow hl ⊢
  have HCL := Lib.hid (clone_any (fun _ => True) _ l w (Rd.ofOwns hrow (fun _ _ => trivial)) (by omega))
  obtain ⟨va, vc, rfl⟩ := owns_val hrow
  clear h hrow
  go_enter Try.func20, Try.ntmps20
  go_wp2_with fail
  refine HCL.out.mono ?_
  rintro e w3 ⟨v', rfl, hown1, hcc⟩
  obtain ⟨va, vc, rfl⟩ := owns_val hown1
  have HOWN := Lib.hid hown1
  have HCC := Lib.hid hcc
  clear hown1 hcc c1
  go_wp2
  go_ret
  exact ⟨_, rfl, HOWN.out, HCC.out⟩

set_option maxHeartbeats 2000000 in
set_option maxRecDepth 100000 in
theorem semGive_any (S : Nat → Prop) (w : World) (t : Nat) (s : Qm) (h : QIn S w t s) (hk : s.ok 1000) : Calls Try.prog 18 #[.pointer (some ⟨t, 0, none⟩)] w (AnyPost S w t s.give) := by
  have HIN := Lib.hid h
  obtain ⟨c, l⟩ := s
  obtain ⟨V, tag, h⟩ := h
  have c0 : w.cell? ⟨t, 0, none⟩ = some (.int .i64 c) := h.blk.cell 0
  have c1 : w.cell? ⟨t, 1, none⟩ = some V := h.blk.cell 1
  have f0 := h.blk.frozen 0
  have f1 := h.blk.frozen 1
  have hrow : w.ownsRow 0 3 1 V l.length (l.map (.int .i64)) := h.row ()
  obtain ⟨k0, k1, k2⟩ := hk
  have k0 : 0 ≤ c := k0
  have k1 : c ≤ 1000 := k1
  have k2 : l.length ≤ 1000 := k2
  cases l with
  | nil =>
    obtain ⟨va, vc, rfl⟩ := owns_val hrow
    have c1 : w.cell? ⟨t, 1, none⟩ = some (.slice va 0 vc) := c1
    by_cases hc : c = 1000
    · have hE : Hid ((⟨c, []⟩ : Qm).give = ⟨c, []⟩) := Lib.hid (by simp [Qm.give, hc])
      have hb : (c == 1000) = true := by rw [hc]; rfl
      clear h hrow hc
      go_enter Try.func18, Try.ntmps18
      go_wp2
      go_ret2
      exact ⟨⟨_, _, rfl⟩, by rw [hE.out]; exact HIN.out, Chg.refl _ _⟩
    · have hE : Hid ((⟨c, []⟩ : Qm).give = ⟨c + 1, []⟩) := Lib.hid (by simp [Qm.give, hc])
      have hb : (c == 1000) = false := by rw [beq_eq_false_iff_ne]; exact hc
      have hw : wrap64 (c + 1) = c + 1 := IntWalk.wrap64_in _ (by omega)
      have HI : Hid (QIn S (w.setCell ⟨t, 0, none⟩ (.int .i64 (c + 1))) t ⟨c + 1, []⟩) := Lib.hid ⟨_, tag, h.setTop 0 (.int .i64 (c + 1))⟩
      have HC := Lib.hid (Mem.chgTop h 0 (.int .i64 (c + 1)))
      clear h hrow hc
      go_enter Try.func18, Try.ntmps18
      go_wp2
      go_ret2
      exact ⟨⟨_, _, rfl⟩, by rw [hE.out]; exact HI.out, HC.out⟩
  | cons x l =>
    have hE : Hid ((⟨c, x :: l⟩ : Qm).give = ⟨c, l⟩) := Lib.hid rfl
    have HD := Lib.hid (delete_any w V x l hrow)
    obtain ⟨g, cap, hv, hb, hlt, _, _⟩ := h.val () (show 0 < (x :: l).length by simp)
    have hv : V = .slice (some ⟨g, 0, none⟩) (l.length + 1) cap := hv
    have d0 : w.cell? ⟨g, 0, none⟩ = some (.int .i64 x) := by rw [h.cell () hv 0 (by simp)]; rfl
    have ngt : ¬ t = g := fun e => h.tne (i := ()) (by rw [← e] at hb; exact hb)
    have hSg : ¬ S g := h.notS (i := ()) hb
    have HNEW := Lib.hid (fun (w1 : World) (hc : Chg (fun b => b = g) w w1) => Mem.newRow h () (w1 := w1) (hc.mono fun b _ hb' => by show V.ownBlock = some b; rw [hv]; show some g = some b; rw [hb']))
    have HTS := Lib.hid h.tNotS
    have tlt := h.blk.lt
    obtain ⟨m, hm⟩ : ∃ m, Hid (l.length = m) := ⟨_, Lib.hid rfl⟩
    rw [hv] at c1
    have k2 : l.length + 1 ≤ 1000 := k2
    rw [hm.out] at c1 k2
    subst hv
    have hm1 : (0 : Int) < (m : Int) + 1 := by omega
    have HSG := Lib.hid hSg
    clear h hrow hb hSg
    rw [hm.out] at HD HNEW
    go_enter Try.func18, Try.ntmps18
    go_wp2_with fail
    refine HD.out.mono ?_
    rintro e w1 ⟨g', cap', e1, rfl, hown, hc⟩
    simp only [Value.slice.injEq, Option.some.injEq, Addr.mk.injEq, and_true] at e1
    obtain ⟨rfl, -, rfl⟩ := e1
    have c1' := hc.cell_some c1 ngt
    have f1' : w1.frozen? ⟨t, 1, none⟩ = false := by rw [World.frozen?_of_block (hc.block t tlt ngt)]; exact f1
    rw [hm.out] at hown ⊢
    have A1 := HNEW.out w1 hc 3 1 (.slice (some ⟨g, 0, none⟩) m cap) m (l.map (.int .i64)) hown (fun b hb => .inl hb)
    have HI : Hid (QIn S (w1.setCell ⟨t, 1, none⟩ (.slice (some ⟨g, 0, none⟩) m cap)) t ⟨c, l⟩) := Lib.hid ⟨_, _, (A1.setTop 1 (.slice (some ⟨g, 0, none⟩) m cap)).congr rfl fun i => by
      cases i; rw [upd_self]; show _ = (⟨_, _, _, l.length, _⟩ : Sl); rw [hm.out]⟩
    have HC : Hid (Chg (fun k => ¬ S k) w (w1.setCell ⟨t, 1, none⟩ (.slice (some ⟨g, 0, none⟩) m cap))) := Lib.hid ((hc.mono fun b _ hb => by rw [hb]; exact HSG.out).setCell (.inl HTS.out) _)
    clear A1 hown hc c1 c0 d0 f0 f1
    go_wp2
    go_ret2
    exact ⟨⟨_, _, rfl⟩, by rw [hE.out]; exact HI.out, HC.out⟩

set_option maxHeartbeats 2000000 in
set_option maxRecDepth 100000 in
theorem semTake_any (S : Nat → Prop) (w : World) (t : Nat) (s : Qm) (h : QIn S w t s) (hk : s.ok 1000) (x : Int) : Calls Try.prog 19 #[.pointer (some ⟨t, 0, none⟩), .int .i64 x] w (AnyPost S w t (s.take x)) := by
  have HIN := Lib.hid h
  obtain ⟨c, l⟩ := s
  obtain ⟨V, tag, h⟩ := h
  have c0 : w.cell? ⟨t, 0, none⟩ = some (.int .i64 c) := h.blk.cell 0
  have c1 : w.cell? ⟨t, 1, none⟩ = some V := h.blk.cell 1
  have f0 := h.blk.frozen 0
  have f1 := h.blk.frozen 1
  have hrow : w.ownsRow 0 3 1 V l.length (l.map (.int .i64)) := h.row ()
  obtain ⟨k0, k1, k2⟩ := hk
  have k0 : 0 ≤ c := k0
  have k1 : c ≤ 1000 := k1
  have k2 : l.length ≤ 1000 := k2
  have hV : ∃ va vc, V = .slice va l.length vc := owns_val hrow
  obtain ⟨va, vc, hV⟩ := hV
  cases hin : inB x 0 7 with
  | false =>
    have hE : Hid ((⟨c, l⟩ : Qm).take x = ⟨c, l⟩) := Lib.hid (by unfold Qm.take; rw [if_pos hin])
    have HN := Lib.hid hin
    clear h hrow hin
    go_enter Try.func19, Try.ntmps19
    go_wp2_with fail
    refine (within_any _ _ _ _).mono ?_
    rintro e w' ⟨rfl, rfl⟩
    rw [HN.out]
    go_wp2
    go_ret2
    exact ⟨⟨_, _, rfl⟩, by rw [hE.out]; exact HIN.out, Chg.refl _ _⟩
  | true =>
  have HN := Lib.hid hin
  have HCO := Lib.hid (contains_any (fun _ => True) _ l x w (Rd.ofOwns hrow (fun _ _ => trivial)) (by omega))
  cases hct : l.contains x with
  | true =>
    have hE : Hid ((⟨c, l⟩ : Qm).take x = ⟨c, l⟩) := Lib.hid (by unfold Qm.take; rw [if_neg (by rw [hin]; simp), if_pos hct])
    rw [hct] at HCO
    obtain ⟨m, hm⟩ : ∃ m, Hid (l.length = m) := ⟨_, Lib.hid rfl⟩
    rw [hm.out] at hV
    subst hV
    clear h hrow hin hct
    go_enter Try.func19, Try.ntmps19
    go_wp2_with fail
    refine (within_any _ _ _ _).mono ?_
    rintro e w' ⟨rfl, rfl⟩
    rw [HN.out]
    go_wp2_with fail
    refine HCO.out.mono ?_
    rintro e w' ⟨rfl, rfl⟩
    go_wp2
    go_ret2
    exact ⟨⟨_, _, rfl⟩, by rw [hE.out]; exact HIN.out, Chg.refl _ _⟩
  | false =>
  rw [hct] at HCO
  by_cases hc0 : 0 < c
  · have hE : Hid ((⟨c, l⟩ : Qm).take x = ⟨c - 1, l⟩) := Lib.hid (by unfold Qm.take; rw [if_neg (by rw [hin]; simp), if_neg (by show ¬ l.contains x = true; rw [hct]; simp), if_pos hc0])
    have hw : wrap64 (c - 1) = c - 1 := IntWalk.wrap64_in _ (by omega)
    have HI : Hid (QIn S (w.setCell ⟨t, 0, none⟩ (.int .i64 (c - 1))) t ⟨c - 1, l⟩) := Lib.hid ⟨_, tag, h.setTop 0 (.int .i64 (c - 1))⟩
    have HC := Lib.hid (Mem.chgTop h 0 (.int .i64 (c - 1)))
    obtain ⟨m, hm⟩ : ∃ m, Hid (l.length = m) := ⟨_, Lib.hid rfl⟩
    rw [hm.out] at hV
    rw [hV] at c1 HCO
    clear h hrow hin hct hV
    go_enter Try.func19, Try.ntmps19
    go_wp2_with fail
    refine (within_any _ _ _ _).mono ?_
    rintro e w' ⟨rfl, rfl⟩
    rw [HN.out]
    go_wp2_with fail
    refine HCO.out.mono ?_
    rintro e w' ⟨rfl, rfl⟩
    go_wp2
    go_ret2
    exact ⟨⟨_, _, rfl⟩, by rw [hE.out]; exact HI.out, HC.out⟩
  · have hE : Hid ((⟨c, l⟩ : Qm).take x = ⟨c, l ++ [x]⟩) := Lib.hid (by unfold Qm.take; rw [if_neg (by rw [hin]; simp), if_neg (by show ¬ l.contains x = true; rw [hct]; simp), if_neg hc0])
    have hHV : Hid (V = .slice va l.length vc) := Lib.hid hV
    have nt : ¬ V.ownBlock = some t := Mem.tne h (i := ())
    have HNS := Lib.hid (fun b (hb : V.ownBlock = some b) => Mem.notS h (i := ()) hb)
    have HNEW := Lib.hid (fun (w1 : World) (hc : Chg (fun b => V.ownBlock = some b) w w1) => Mem.newRow h () (w1 := w1) hc)
    have HTS := Lib.hid h.tNotS
    have tlt := h.blk.lt
    obtain ⟨i0, hi, hz0, hz1, hz2⟩ := info_parts infoInt
    have HK2 := Lib.hid k2
    rw [hV] at nt c1 hrow HCO HNS HNEW
    clear h hin hct hV k2
    go_enter Try.func19, Try.ntmps19
    go_wp2_with fail
    refine (within_any _ _ _ _).mono ?_
    rintro e w' ⟨rfl, rfl⟩
    rw [HN.out]
    go_wp2_with fail
    refine HCO.out.mono ?_
    rintro e w' ⟨rfl, rfl⟩
    clear HCO
    go_wp2_with (at_builtin; refine wpList_append_lies _ rfl _ _ 30 rfl 0 3 i0 (.int .i64 0) 1 8 Try.underlying30 hi hz0 hz1 hz2 rfl (by decide) (.slice va l.length vc) l.length _ rfl (hrow.alloc _) ⟨w.heap.size, 0, none⟩ 1 1 [.int .i64 x] rfl rfl (World.news_of_block (cs := #[.int .i64 x]) (t := 3) (fr := (0, 0)) (heap_alloc_new w _)) (by simp [Value.oneCell']) (by omega) (by have := HK2.out; unfold maxLen; omega) (by have := HK2.out; omega) (by simp) _ rfl ?_; intro g4 cap4 w6 hown4 hgrow4 hat4 hlt4; have hc6 : Chg (fun b => (Value.slice va l.length vc).ownBlock = some b) w w6 := ((Chg.refl _ w).alloc _).grown hgrow4 (fun k hk => .inl hk); have c1' := hc6.cell_some c1 nt; have f1' : w6.frozen? ⟨t, 1, none⟩ = false := by (rw [World.frozen?_of_block (hc6.block t tlt nt)]; exact f1))
    have A1 := HNEW.out w6 hc6 3 1 (.slice (some ⟨g4, 0, none⟩) (l.length + 1) cap4) (l.length + 1) ((l ++ [x]).map (.int .i64)) (by simpa using hown4) (fun b hb => by
      obtain rfl : g4 = b := by simpa [Value.ownBlock] using hb
      rcases hat4 with h1 | h1
      · exact .inl h1
      · right; rw [h1]; simp)
    have HI : Hid (QIn S (w6.setCell ⟨t, 1, none⟩ (.slice (some ⟨g4, 0, none⟩) (l.length + 1) cap4)) t ⟨c, l ++ [x]⟩) := Lib.hid ⟨_, _, (A1.setTop 1 (.slice (some ⟨g4, 0, none⟩) (l.length + 1) cap4)).congr rfl fun i => by
      cases i; rw [upd_self]; show _ = (⟨_, _, _, (l ++ [x]).length, _⟩ : Sl); rw [List.length_append, List.length_singleton]⟩
    have HC : Hid (Chg (fun k => ¬ S k) w (w6.setCell ⟨t, 1, none⟩ (.slice (some ⟨g4, 0, none⟩) (l.length + 1) cap4))) := Lib.hid ((hc6.mono fun b _ hb => HNS.out b hb).setCell (.inl HTS.out) _)
    clear A1 hown4 hgrow4 hat4 hlt4 hc6 c1 c1' f1 f1' hrow HNEW HNS nt tlt
    go_wp2
    go_ret2
    exact ⟨⟨_, _, rfl⟩, by rw [hE.out]; exact HI.out, HC.out⟩

end Go.Proofs.Ythieompmmpbioaa
