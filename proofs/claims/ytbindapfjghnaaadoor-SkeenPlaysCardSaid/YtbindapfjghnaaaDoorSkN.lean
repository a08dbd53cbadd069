/-
  The document's net of one order, field by field, and what each deed does to the fields.
  Conditions: none beyond those of each lemma.
-/
import Derived.Test.YtbindapfjghnaaaDoorSkMath2
import Derived.Test.YtbindapfjghnaaaDoorBox
import Derived.Test.YtbindapfjghnaaaDoorSetB
import Derived.Test.YtbindapfjghnaaaDoorFlat
namespace Go.Proofs.YtbindapfjghnaaaDoor
open Go Go.RowKit

def SNet.tL (s : SNet) : List (List Int) := line s.m fun k => line s.n (s.tm k)
def SNet.fL (s : SNet) : List Int := line s.m fun k => (setB (s.fix k) s.n : Int)
def SNet.gL (s : SNet) : List (List Int) := line s.n s.got
/-- The document's net, field by field. -/
def sf (s : SNet) : List Fd := [.l (line s.n s.clk), .r s.tL, .l s.fL, .r s.gL]

theorem SNet.tL_len (s : SNet) : s.tL.length = s.m := line_len _ _
theorem SNet.fL_len (s : SNet) : s.fL.length = s.m := line_len _ _
theorem SNet.gL_len (s : SNet) : s.gL.length = s.n := line_len _ _
theorem SNet.tL_at (s : SNet) {k : Nat} (hk : k < s.m) : s.tL.getD k [] = line s.n (s.tm k) := line_at _ hk _
theorem SNet.fL_at (s : SNet) {k : Nat} (hk : k < s.m) : s.fL.getD k 0 = (setB (s.fix k) s.n : Int) := line_at _ hk _
theorem SNet.gL_at (s : SNet) {p : Nat} (hp : p < s.n) : s.gL.getD p [] = s.got p := line_at _ hp _

theorem line_succ {α : Type} (n : Nat) (f : Nat → α) : line (n + 1) f = line n f ++ [f n] := by simp [line, List.range_succ]

theorem setB_none (n : Nat) : setB (fun _ => false) n = 0 := by
  induction n with
  | zero => rfl
  | succ n ih => unfold setB; rw [ih]; rfl

theorem send_tL (s : SNet) : s.send0.tL = s.tL ++ [line s.n fun _ => 0] := by
  show line (s.m + 1) (fun k => line s.n (s.send0.tm k)) = _
  rw [line_succ]
  congr 1
  · exact line_congr fun k hk => line_congr fun p _ => by show (if k = s.m then 0 else s.tm k p) = _; rw [if_neg (by omega)]
  · congr 1
    exact line_congr fun p _ => by show (if s.m = s.m then 0 else s.tm s.m p) = _; rw [if_pos rfl]
theorem send_fL (s : SNet) : s.send0.fL = s.fL ++ [0] := by
  show line (s.m + 1) (fun k => ((setB (s.send0.fix k) s.n : Nat) : Int)) = _
  rw [line_succ]
  congr 1
  · exact line_congr fun k hk => by
      rw [show setB (s.send0.fix k) s.n = setB (s.fix k) s.n from setB_congr fun p _ => by show (if k = s.m then false else s.fix k p) = _; rw [if_neg (by omega)]]
  · congr 1
    rw [show setB (s.send0.fix s.m) s.n = 0 from (setB_congr (g := fun _ => false) fun p _ => by show (if s.m = s.m then false else s.fix s.m p) = _; rw [if_pos rfl]).trans (setB_none _)]
    rfl

theorem put_tL (s : SNet) {p k : Nat} (x : Int) : s.tL.set k ((line s.n (s.tm k)).set p x) = line s.m fun j => line s.n (put2 s.tm k p x j) := by
  unfold SNet.tL
  rw [line_set, line_set]
  refine line_congr fun j _ => ?_
  by_cases e : j = k
  · subst e
    rw [put1_self]
    exact line_congr fun q _ => by
      by_cases e2 : q = p
      · subst e2; rw [put1_self, put2_self]
      · rw [put1_ne _ _ e2, put2_ne _ _ (.inr e2)]
  · rw [put1_ne _ _ e]
    exact line_congr fun q _ => by rw [put2_ne _ _ (.inl e)]
theorem put_fL (s : SNet) {p k : Nat} (hp : p < s.n) : s.fL.set k ((withB (setB (s.fix k) s.n) p : Nat) : Int) = line s.m fun j => (setB (put2 s.fix k p true j) s.n : Int) := by
  unfold SNet.fL
  rw [line_set]
  refine line_congr fun j _ => ?_
  by_cases e : j = k
  · subst e
    rw [put1_self, with_setB _ hp]
    rw [show setB (fun q => if q = p then true else s.fix j q) s.n = setB (put2 s.fix j p true j) s.n from setB_congr fun q _ => by
      by_cases e2 : q = p
      · subst e2; rw [if_pos rfl, put2_self]
      · rw [if_neg e2, put2_ne _ _ (.inr e2)]]
  · rw [put1_ne _ _ e]
    rw [show setB (put2 s.fix k p true j) s.n = setB (s.fix j) s.n from setB_congr fun q _ => by rw [put2_ne _ _ (.inl e)]]

theorem hear_sf {s : SNet} (h : SPre s) {p k : Nat} (hp : p < s.n) (hk : k < s.m) (hh : s.here k p = false) :
    [.l ((line s.n s.clk).set p (s.clk p + 1)), .r (s.tL.set k ((line s.n (s.tm k)).set p (s.clk p + 1))), .l s.fL, .r s.gL] = sf (s.hear0 p k) := by
  have hf := (h.tm0 p k hp hk hh).2
  unfold sf
  rw [line_set, put_tL]
  have e : s.fL = (s.hear0 p k).fL := by
    show _ = line s.m fun j => ((setB (put2 s.fix k p false j) s.n : Nat) : Int)
    refine line_congr fun j _ => ?_
    rw [show setB (put2 s.fix k p false j) s.n = setB (s.fix j) s.n from setB_congr fun q _ => by
      by_cases e2 : j = k ∧ q = p
      · obtain ⟨rfl, rfl⟩ := e2; rw [put2_self, hf]
      · rw [put2_ne _ _ (by omega)]]
  rw [e]; rfl

/-- What a fix does to the fields, before notes are taken. -/
theorem fix_sf {s : SNet} {p k : Nat} (hp : p < s.n) :
    [.l (line s.n (put1 s.clk p (max (s.clk p) (mostL s k s.n)))), .r (s.tL.set k ((line s.n (s.tm k)).set p (mostL s k s.n))), .l (s.fL.set k ((withB (setB (s.fix k) s.n) p : Nat) : Int)), .r s.gL] = sf (s.fix1 p k) := by
  unfold sf
  rw [put_tL, put_fL s hp]; rfl

theorem take_sf (s : SNet) {p : Nat} : (sf s).set 3 (.r (s.gL.set p (s.got p ++ [bestL s p s.m]))) = sf (s.take1 p) := by
  unfold SNet.gL
  rw [line_set]; rfl

theorem here_iff {s : SNet} (h : SPre s) {p k : Nat} (hp : p < s.n) (hk : k < s.m) : (s.tm k p == 0) = !s.here k p := by
  cases hh : s.here k p with
  | true => have := (h.tmH p k hp hk hh).1; simp; omega
  | false => have := (h.tm0 p k hp hk hh).1; simp [this]

end Go.Proofs.YtbindapfjghnaaaDoor
