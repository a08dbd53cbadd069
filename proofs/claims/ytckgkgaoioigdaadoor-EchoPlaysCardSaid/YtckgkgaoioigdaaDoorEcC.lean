/-
  slices.Repeat of one number, a few times.
  Conditions: at most five times.
-/
import Derived.Test.YtckgkgaoioigdaaDoorEcB
import Derived.Test.YtckgkgaoioigdaaDoorMem
import Derived.Test.YtckgkgaoioigdaaDoorRegion2
import Derived.Test.YtckgkgaoioigdaaDoorClone
import Derived.Laws.CopyOwn
namespace Go.Proofs.YtckgkgaoioigdaaDoor
open Go Go.RowKit

theorem whole_block {w : World} {base e g n : Nat} {xs : List Value} (h : w.ownsRow base e 1 (.slice (some ⟨g, 0, none⟩) n n) n xs) : w.heap[g]? = some (.cells xs.toArray e (0, 0)) := by
  rcases h.2 with ⟨h1, _⟩ | ⟨g', cap, cur, hv, _, hg, _, _, hs, ht⟩
  · cases h1
  · injection hv with e1 _ e3
    injection e1 with e1
    injection e1 with e1
    subst e1; subst e3
    rw [hg, ← ht, List.take_of_length_le (by rw [Array.length_toList]; omega)]

theorem block_whole {w : World} {base e g n : Nat} {xs : List Value} (h : w.heap[g]? = some (.cells xs.toArray e (0, 0))) (hb : base ≤ g) (hl : xs.length = n) (hn : n ≤ 1000) : w.ownsRow base e 1 (.slice (some ⟨g, 0, none⟩) n n) n xs :=
  ⟨by omega, .inr ⟨g, n, xs.toArray, rfl, hb, h, Nat.le_refl _, by unfold maxLen; omega, by simp [hl], by rw [← hl]; simp⟩⟩

theorem wp_copy {P : Program} {o : Oper} {a : Act} {w : World} {K : Act → World → Prop} {Q : Exit → Act → World → Prop} (d s : Operand) (dT sT : TypeId)
    (ho : o.op = .call { callee := .builtin .copy, args := #[d, s], argTypes := #[dT, sT] }) (elem : TypeId) (hu : P.underlying dT = some (.slice elem)) (hsz : (P.info? elem).map (·.size) = some 1)
    (g off dLen dCap : Nat) (ad : Addr) (sLen sCap : Nat) (hd : a.eval d = .slice (some ⟨g, off, none⟩) dLen dCap) (hs : a.eval s = .slice (some ad) sLen sCap)
    (cur : Array Value) (t : TypeId) (hg : w.heap[g]? = some (.cells cur t (0, 0))) (cs : List Value) (hn : cs.length = Nat.min sLen dLen)
    (hsrc : ∀ j v, cs[j]? = some v → w.cell? (ad.add j) = some v) (hfit : off + cs.length ≤ cur.size) (h1 : ∀ v ∈ cs, v.oneCell' = true)
    (h : K (a.put o.dst (goInt cs.length)) (w.setRow g (cur.toList.take off ++ (cs ++ cur.toList.drop (off + cs.length))).toArray)) : o.wp P a w K Q := by
  have hrun := run_copy_row (P := P) w dT sT o.type elem g off dLen dCap ad sLen sCap cur t cs hu hsz hg hn hsrc hfit h1
  unfold Oper.wp
  simp [execOp, ho, resolve, invoke, builtin, hd, hs, hrun, Result.andThen]
  exact h

theorem setRow_chg (w : World) (g : Nat) (cs : Array Value) : Chg (fun b => b = g) w (w.setRow g cs) :=
  ⟨rfl, rfl, rfl, by simp [World.setRow], fun k _ hn => setRow_other w g k cs hn⟩

def rep (c n : Nat) : List Value := List.replicate c (.int .i64 (-1)) ++ List.replicate (n - c) (.int .i64 0)
theorem rep_len {c n : Nat} (h : c ≤ n) : (rep c n).length = n := by simp [rep]; omega
theorem rep_at {c n j : Nat} (hj : j < c) : (rep c n)[j]? = some (.int .i64 (-1)) := by
  unfold rep
  rw [List.getElem?_append_left (by simpa using hj)]
  simp [hj]
theorem rep_next {c k n : Nat} (h : c + k ≤ n) : (rep c n).take c ++ (List.replicate k (Value.int .i64 (-1)) ++ (rep c n).drop (c + k)) = rep (c + k) n := by
  unfold rep
  rw [List.take_append_of_le_length (by simp), List.take_of_length_le (by simp), List.drop_append, List.drop_of_length_le (by simp), List.nil_append, ← List.append_assoc, List.replicate_append_replicate]
  congr 1
  rw [List.drop_replicate]
  congr 1
  simp; omega

def RepPost (w : World) (n : Nat) (e : Ending) (w' : World) : Prop := ∃ g, e = .returned (.slice (some ⟨g, 0, none⟩) n n) ∧ w'.ownsRow w.heap.size 3 1 (.slice (some ⟨g, 0, none⟩) n n) n (List.replicate n (.int .i64 (-1))) ∧ Chg NoF w w'

theorem sizeInt : (Tryd.prog.info? 3).map (·.size) = some 1 := by kernel_rfl

set_option maxHeartbeats 4000000 in
set_option maxRecDepth 100000 in
theorem repeat_any (w : World) (b n : Nat) (hn1 : 1 ≤ n) (hn5 : n ≤ 5) (hx : w.cell? ⟨b, 0, none⟩ = some (.int .i64 (-1))) :
    Calls Tryd.prog 21 #[.slice (some ⟨b, 0, none⟩) 1 1, .int .i64 n] w (RepPost w n) := by
  have HM := Lib.hid (mul_any n hn5 w)
  have hu : IntKind.u64.wrap (n : Int) = n := by
    have hc : n = 1 ∨ n = 2 ∨ n = 3 ∨ n = 4 ∨ n = 5 := by omega
    rcases hc with rfl | rfl | rfl | rfl | rfl <;> rfl
  have hi : IntKind.i64.wrap (n : Int) = n := IntWalk.i64_in _ (by omega)
  have h63 : ¬ (9223372036854775807 : Int) < n := by omega
  have hn0 : ¬ (n : Int) < 0 := by omega
  go_enter Tryd.func21, Tryd.ntmps21
  go_wp2_with fail
  refine HM.out.mono ?_
  rintro e w' ⟨rfl, rfl⟩
  go_wp2_with (at_make; refine wpList_plain rfl (fun K hK => wp_make (P := Tryd.prog) 22 _ _ rfl 3 (.int .i64 0) 1 8 infoInt Tryd.underlying22 .i64 .i64 n (by rfl) (by rfl) (by omega) (by omega) ?_); intro g w1 hg own1 hc1 hlt1; have HG := Lib.hid hg; clear hg; refine hK _ _ ?_; clear hK)
  have e0 : (madeCells (Value.int .i64 0).cells (n * 1)).toList = rep 0 n := by
    rw [Nat.mul_one]; unfold rep; rw [List.replicate_zero, List.nil_append, Nat.sub_zero]; exact toList_madeCells_one _ _
  rw [e0] at own1
  have hblk := whole_block own1
  have hx1 : w1.cell? ⟨b, 0, none⟩ = some (.int .i64 (-1)) := hc1.cell_some hx (fun h => h)
  have hrun : (Builtin.copy_ #[22, 22] 3 #[.slice (some ⟨g, 0, none⟩) n n, .slice (some ⟨b, 0, none⟩) 1 1]).run Tryd.prog w1 = .ok (.int .i64 1) (w1.setRow g (rep 1 n).toArray) := by
    have h := run_copy_row (P := Tryd.prog) w1 22 22 3 3 g 0 n n ⟨b, 0, none⟩ 1 1 (rep 0 n).toArray 3 [.int .i64 (-1)] Tryd.underlying22 sizeInt hblk (by simp [Nat.min_def]; omega) (by
      intro j v hj
      have : j = 0 := by have := (List.getElem?_eq_some_iff.1 hj).1; simpa using this
      subst this
      simp at hj; subst hj
      exact hx1) (by simp [rep_len]; omega) (by simp [Value.oneCell'])
    have e : ((rep 0 n).toArray.toList.take 0 ++ [Value.int .i64 (-1)] ++ (rep 0 n).toArray.toList.drop (0 + [Value.int .i64 (-1)].length)) = rep 1 n := by
      have := rep_next (c := 0) (k := 1) (n := n) (by omega)
      simpa using this
    rw [e] at h
    exact h
  have hb1 : (w1.setRow g (rep 1 n).toArray).heap[g]? = some (.cells (rep 1 n).toArray 3 (0, 0)) := setRow_heap w1 g _ _ _ _ hblk
  have HB1 : Hid ((w1.setRow g (rep 1 n).toArray).heap[g]? = some (.cells (rep 1 n).toArray 3 (0, 0)) ∧ Chg NoF w (w1.setRow g (rep 1 n).toArray)) := Lib.hid ⟨hb1, ((hc1.ofNo (F := fun b => b = g)).trans (setRow_chg w1 g _)).mono fun k hk e => by rw [HG.out] at e; omega⟩
  clear hb1 own1 e0 hblk hc1
  rw [hrun]
  go_wp2_with fail
  clear hrun
  generalize w1.setRow g _ = w2 at *
  go_loopw [8] (fun i wr => ∃ c : Nat, 1 ≤ c ∧ c ≤ n ∧ i = .int .i64 c ∧ Hid (wr.heap[g]? = some (.cells (rep c n).toArray 3 (0, 0)) ∧ Chg NoF w wr)) (fun i _ => n - (intOf i).toNat)
  case atStart => exact ⟨1, Nat.le_refl _, hn1, rfl, HB1⟩
  case round =>
    clear HB1 hx hx1
    obtain ⟨c, hc1, hcn, rfl, HR⟩ := hrel
    by_cases hlt : c < n
    · have hlt1 : (c : Int) < n := by omega
      obtain ⟨k, hk⟩ : ∃ k, k = min c (n - c) := ⟨_, rfl⟩
      have hk1 : 1 ≤ k := by omega
      have hk2 : c + k ≤ n := by omega
      have HK := Lib.hid hk
      have hc0 : (0 : Int) ≤ c := by omega
      have hcle : (c : Int) ≤ n := by omega
      clear hk
      go_wp2_with fail
      have hnc : ¬ n = c := by omega
      have hcn2 : ¬ c = n := by omega
      refine wp_region_plan (fun _ => True) 10 [(0,true),(1,true),(2,true),(3,true),(4,true),(5,true),(6,true),(7,false),(8,true),(9,true)] mixed (by kernel_rfl) trivial ?_
      simp only [planOps, List.map_cons, List.map_nil, List.getElem?_cons_zero, List.getElem?_cons_succ, Option.getD_some]
      generalize hops : List.toArray _ = ops
      iterate 7 (refine wpPlan_quiet (v := ?_) rfl (fun _ _ _ h => h) (by intro w1 hS; clear hS; go_simp; with_reducible rfl) ?_; (simp only [Act.put, List.setIfInBounds_toArray, List.set_cons_zero, List.set_cons_succ]))
      refine wpPlan_loud rfl (fun K hK => ?_)
      refine wp_copy (P := Tryd.prog) _ _ 22 22 rfl 3 Tryd.underlying22 sizeInt g c (n - c) (n - c) ⟨g, 0, none⟩ c n (by simp [Act.eval, hnc]) (by rfl) (rep c n).toArray 3 HR.out.1 (List.replicate k (.int .i64 (-1))) (by rw [List.length_replicate, HK.out]) (by
        intro j v hj
        have h1 : j < k := by have := (List.getElem?_eq_some_iff.1 hj).1; simpa using this
        have h2 : v = .int .i64 (-1) := by
          rw [List.getElem?_replicate, if_pos h1] at hj
          injection hj with hj; exact hj.symm
        subst h2
        have h3 : j < c := by have := HK.out; omega
        have h4 := rep_at (n := n) h3
        have h5 : wr.heap[g]? = some (.cells (rep c n).toArray 3 (0, 0)) := HR.out.1
        have h6 : (World.drew wr).cell? ((⟨g, 0, none⟩ : Addr).add j) = wr.cell? ((⟨g, 0, none⟩ : Addr).add j) := rfl
        rw [h6, Addr.add_lit, Nat.zero_add]
        simp [World.cell?, h5, h4]) (by simp [rep_len hcn]; omega) (by intro v hv; rw [List.eq_of_mem_replicate hv]; rfl) ?_
      have e1 : ((rep c n).toArray.toList.take c ++ (List.replicate k (Value.int .i64 (-1)) ++ (rep c n).toArray.toList.drop (c + (List.replicate k (Value.int .i64 (-1))).length))) = rep (c + k) n := by
        rw [List.length_replicate]; exact rep_next hk2
      rw [e1, List.length_replicate]
      refine hK _ _ (fun _ => trivial) ?_
      clear hK K
      have HR2 : Hid ((wr.drew.setRow g (rep (c + k) n).toArray).heap[g]? = some (.cells (rep (c + k) n).toArray 3 (0, 0)) ∧ Chg NoF w (wr.drew.setRow g (rep (c + k) n).toArray)) := Lib.hid ⟨setRow_heap wr.drew g _ _ _ _ HR.out.1, (((HR.out.2.drew).ofNo (F := fun b => b = g)).trans (setRow_chg wr.drew g _)).mono fun j hj e => by rw [HG.out] at e; omega⟩
      rw [show goInt ((k : Nat) : Int) = .int .i64 k from rfl]
      (try simp only [Act.put, List.setIfInBounds_toArray, List.set_cons_zero, List.set_cons_succ])
      clear e1 HR hnc hcn2
      generalize World.setRow _ _ _ = w3 at *
      have hwk2 : IntKind.i64.wrap ((c : Int) + k) = ((c + k : Nat) : Int) := by rw [← Int.natCast_add]; exact IntWalk.i64_in _ (by omega)
      have hwk : wrap64 ((c : Int) + k) = ((c + k : Nat) : Int) := by rw [← Int.natCast_add]; exact IntWalk.wrap64_in _ (by omega)
      iterate 2 (refine wpPlan_quiet (v := ?_) rfl (fun _ _ _ h => h) (by intro w1 hS; clear hS; go_simp; with_reducible rfl) ?_; (simp only [Act.put, List.setIfInBounds_toArray, List.set_cons_zero, List.set_cons_succ]))
      clear hops
      refine wpPlan_nil ?_
      go_wp2
      go_roundw
      case rel => exact ⟨c + k, by omega, hk2, by go_num, HR2⟩
      case measure => simp [intOf]; omega
    · obtain rfl : c = n := by omega
      have hlt1 : ¬ (c : Int) < c := by omega
      have HOWN : Hid (wr.ownsRow w.heap.size 3 1 (.slice (some ⟨g, 0, none⟩) c c) c (List.replicate c (.int .i64 (-1)))) := Lib.hid (by
        have e : rep c c = List.replicate c (.int .i64 (-1)) := by unfold rep; simp
        rw [← e]
        exact block_whole HR.out.1 (by rw [HG.out]; exact Nat.le_refl _) (rep_len (Nat.le_refl _)) (by omega))
      have HC := Lib.hid HR.out.2
      go_wp2
      go_ret
      exact ⟨g, rfl, HOWN.out, HC.out⟩

end Go.Proofs.YtckgkgaoioigdaaDoor
