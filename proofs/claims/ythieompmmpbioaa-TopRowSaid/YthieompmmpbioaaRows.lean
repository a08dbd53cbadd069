/-
  No cell of these rows narrows 'for every input' (looked for: loops, veiled, ifaces, maps, wideKeys, modest, calm, conditions, laid).
  DERIVED. THE GIVEN ROWS OF THIS SEAT. 4 by the template 'for every input the law returns true; each argument reads behind the call as it read before'; 0 by the template 'total and deterministic' (their statements: YthieompmmpbioaaTotals.lean).
  GIVEN WITH THE SEED: the statements are not yours to turn. If you find one false, say at which input.
  Laid BY PROGRAM, IN A SANDBOX (cutbox-rows.mjs): the forced cells as the released guide's own fill.sh prints them over the translation 1e38fb07f6363c52… (all of the seat's roots in one cut). By AI agents, Wed Nov 11 2026. No macro, syntax, notation, axiom, sorry.
-/
import Derived.Test.YthieompmmpbioaaChecked
import GoSem.Claim
import GoSem.ClaimJoined
import GoSem.ClaimMapViews
import Derived.JoinedTies
import Derived.KernelRfl
namespace Go.Proofs.Ythieompmmpbioaa
/- THE CELL 'sum', in the pinned program and in every row, IS THE sha256 OF THE DUMP (.gsa) THAT YthieompmmpbioaaProg.lean LOADS. Nothing in Lean hashes anything: it is a label: what it is worth is what the hold of that sum in a sandbox is worth. -/
noncomputable def Try.pinned : Pinned := { name := "ythieompmmpbioaa", sum := "1e38fb07f6363c5245ae543d7296214732760a14c0f29fe99dbf7bac579238fb", checked := Try.checked }
namespace Rows
def none {H : Type} : Left H := { results := [], args := [] }

/-- 'latchgarthlaw5.SkeenSame': WHATEVER THE INPUT: true; the input reads as it did. -/
def skeenSameSpec : ChangeSpec := { name := "skeenSame", fn := fun _ => fun
  | [d1, d2] => { results := [.lit (.bool true)], args := [d1, d2] }
  | _ => none }
def skeenSameRow : OpenClaim := { program := "ythieompmmpbioaa", sum := "1e38fb07f6363c5245ae543d7296214732760a14c0f29fe99dbf7bac579238fb", func := "latchgarth/latchgarthlaw5.SkeenSame", spec := "skeenSame", apart := false }
def SkeenSameSaid : Prop := skeenSameRow.holds Try.pinned (OpenSpec.ofChange skeenSameSpec)

/-- ITS FALSE NEIGHBOUR: 'it returns false'. Refute it at one input. -/
def skeenSameWrong : ChangeSpec := { name := "skeenSame", fn := fun _ => fun
  | [d1, d2] => { results := [.lit (.bool false)], args := [d1, d2] }
  | _ => none }
def SkeenSameWrongFalsely : Prop := skeenSameRow.holds Try.pinned (OpenSpec.ofChange skeenSameWrong)

/-- 'latchgarthlaw5.SkeenGoes': WHATEVER THE INPUT: true; the input reads as it did. -/
def skeenGoesSpec : ChangeSpec := { name := "skeenGoes", fn := fun _ => fun
  | [d1, d2] => { results := [.lit (.bool true)], args := [d1, d2] }
  | _ => none }
def skeenGoesRow : OpenClaim := { program := "ythieompmmpbioaa", sum := "1e38fb07f6363c5245ae543d7296214732760a14c0f29fe99dbf7bac579238fb", func := "latchgarth/latchgarthlaw5.SkeenGoes", spec := "skeenGoes", apart := false }
def SkeenGoesSaid : Prop := skeenGoesRow.holds Try.pinned (OpenSpec.ofChange skeenGoesSpec)

/-- ITS FALSE NEIGHBOUR: 'it returns false'. Refute it at one input. -/
def skeenGoesWrong : ChangeSpec := { name := "skeenGoes", fn := fun _ => fun
  | [d1, d2] => { results := [.lit (.bool false)], args := [d1, d2] }
  | _ => none }
def SkeenGoesWrongFalsely : Prop := skeenGoesRow.holds Try.pinned (OpenSpec.ofChange skeenGoesWrong)

/-- 'latchgarthtop.TopRow': WHATEVER THE INPUT: true; the input reads as it did. -/
def topRowSpec : ChangeSpec := { name := "topRow", fn := fun _ => fun
  | [d1, d2, d3] => { results := [.lit (.bool true)], args := [d1, d2, d3] }
  | _ => none }
def topRowRow : OpenClaim := { program := "ythieompmmpbioaa", sum := "1e38fb07f6363c5245ae543d7296214732760a14c0f29fe99dbf7bac579238fb", func := "latchgarth/latchgarthtop.TopRow", spec := "topRow", apart := false }
def TopRowSaid : Prop := topRowRow.holds Try.pinned (OpenSpec.ofChange topRowSpec)

/-- ITS FALSE NEIGHBOUR: 'it returns false'. Refute it at one input. -/
def topRowWrong : ChangeSpec := { name := "topRow", fn := fun _ => fun
  | [d1, d2, d3] => { results := [.lit (.bool false)], args := [d1, d2, d3] }
  | _ => none }
def TopRowWrongFalsely : Prop := topRowRow.holds Try.pinned (OpenSpec.ofChange topRowWrong)

/-- 'latchgarthlaw5.SkeenTime': WHATEVER THE INPUT: true; the input reads as it did. -/
def skeenTimeSpec : ChangeSpec := { name := "skeenTime", fn := fun _ => fun
  | [d1, d2] => { results := [.lit (.bool true)], args := [d1, d2] }
  | _ => none }
def skeenTimeRow : OpenClaim := { program := "ythieompmmpbioaa", sum := "1e38fb07f6363c5245ae543d7296214732760a14c0f29fe99dbf7bac579238fb", func := "latchgarth/latchgarthlaw5.SkeenTime", spec := "skeenTime", apart := false }
def SkeenTimeSaid : Prop := skeenTimeRow.holds Try.pinned (OpenSpec.ofChange skeenTimeSpec)

/-- ITS FALSE NEIGHBOUR: 'it returns false'. Refute it at one input. -/
def skeenTimeWrong : ChangeSpec := { name := "skeenTime", fn := fun _ => fun
  | [d1, d2] => { results := [.lit (.bool false)], args := [d1, d2] }
  | _ => none }
def SkeenTimeWrongFalsely : Prop := skeenTimeRow.holds Try.pinned (OpenSpec.ofChange skeenTimeWrong)

/- THE SECOND FORM. 'bulk': how many values and letters a reading holds, each counted each time it is reached (what is shared counts as often as it is met; a slice's spare places count too). A statement '..UptoSaid' is the law's where the arguments, and the package variables that the reading takes, are together of bulk at most 1048576: NARROWER than '..Said'. Prove '..Said' where nothing that the law and all that it calls make is longer than what came in: it says more and counts as full. Else prove '..UptoSaid'. A law counts once. -/
mutual
def uptoBulk {H : Type} : DataW H → Nat
  | .lit (.string bytes) => bytes.length + 1
  | .lit _ => 1
  | .nil => 1
  | .ptr d => uptoBulk d + 1
  | .slice elems spare => uptoBulkAll elems + uptoBulkAll spare + 1
  | .agg parts => uptoBulkAll parts + 1
  | .iface _ d => uptoBulk d + 1
  | .map entries => uptoBulkEntries entries + 1
  | .held _ => 1
def uptoBulkAll {H : Type} : List (DataW H) → Nat
  | [] => 0
  | d :: r => uptoBulk d + uptoBulkAll r
def uptoBulkEntries {H : Type} : List (Lit × DataW H) → Nat
  | [] => 0
  | x :: r => uptoBulkEntry x + uptoBulkEntries r
def uptoBulkEntry {H : Type} : Lit × DataW H → Nat
  | (.string bytes, d) => bytes.length + uptoBulk d + 1
  | (_, d) => uptoBulk d + 1
 end
def uptoSmall : (H : Type) → List (DataW H) → Bool := fun _ ds => decide (uptoBulkAll ds ≤ 1048576)
def OpenSpec.upto (s : _root_.Go.ChangeSpec) : _root_.Go.OpenSpec := { _root_.Go.OpenSpec.ofChange s with cond := some uptoSmall }

/-- 'latchgarthlaw5.SkeenSame', WHERE WHAT IT READS IS OF BULK AT MOST 1048576: true; the input reads as it did. -/
def skeenSameUptoRow : OpenClaim := { program := "ythieompmmpbioaa", sum := "1e38fb07f6363c5245ae543d7296214732760a14c0f29fe99dbf7bac579238fb", func := "latchgarth/latchgarthlaw5.SkeenSame", spec := "skeenSame", apart := false, narrowed := true }
def SkeenSameUptoSaid : Prop := skeenSameUptoRow.holds Try.pinned (OpenSpec.upto skeenSameSpec)

/-- 'latchgarthlaw5.SkeenGoes', WHERE WHAT IT READS IS OF BULK AT MOST 1048576: true; the input reads as it did. -/
def skeenGoesUptoRow : OpenClaim := { program := "ythieompmmpbioaa", sum := "1e38fb07f6363c5245ae543d7296214732760a14c0f29fe99dbf7bac579238fb", func := "latchgarth/latchgarthlaw5.SkeenGoes", spec := "skeenGoes", apart := false, narrowed := true }
def SkeenGoesUptoSaid : Prop := skeenGoesUptoRow.holds Try.pinned (OpenSpec.upto skeenGoesSpec)

/-- 'latchgarthtop.TopRow', WHERE WHAT IT READS IS OF BULK AT MOST 1048576: true; the input reads as it did. -/
def topRowUptoRow : OpenClaim := { program := "ythieompmmpbioaa", sum := "1e38fb07f6363c5245ae543d7296214732760a14c0f29fe99dbf7bac579238fb", func := "latchgarth/latchgarthtop.TopRow", spec := "topRow", apart := false, narrowed := true }
def TopRowUptoSaid : Prop := topRowUptoRow.holds Try.pinned (OpenSpec.upto topRowSpec)

/-- 'latchgarthlaw5.SkeenTime', WHERE WHAT IT READS IS OF BULK AT MOST 1048576: true; the input reads as it did. -/
def skeenTimeUptoRow : OpenClaim := { program := "ythieompmmpbioaa", sum := "1e38fb07f6363c5245ae543d7296214732760a14c0f29fe99dbf7bac579238fb", func := "latchgarth/latchgarthlaw5.SkeenTime", spec := "skeenTime", apart := false, narrowed := true }
def SkeenTimeUptoSaid : Prop := skeenTimeUptoRow.holds Try.pinned (OpenSpec.upto skeenTimeSpec)

end Rows
end Go.Proofs.Ythieompmmpbioaa
