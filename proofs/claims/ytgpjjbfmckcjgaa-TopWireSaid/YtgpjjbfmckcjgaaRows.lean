/-
  No cell of these rows narrows 'for every input' (looked for: loops, veiled, ifaces, maps, wideKeys, modest, calm, conditions, laid).
  DERIVED. THE GIVEN ROWS OF THIS SEAT. 5 by the template 'for every input the law returns true; each argument reads behind the call as it read before'; 0 by the template 'total and deterministic' (their statements: YtgpjjbfmckcjgaaTotals.lean).
  GIVEN WITH THE SEED: the statements are not yours to turn. If you find one false, say at which input.
  Laid BY PROGRAM, IN A SANDBOX (cutbox-rows.mjs): the forced cells as the released guide's own fill.sh prints them over the translation da863a6a579b684c… (all of the seat's roots in one cut). By AI agents, Wed Nov 11 2026. No macro, syntax, notation, axiom, sorry.
-/
import Derived.Test.YtgpjjbfmckcjgaaChecked
import GoSem.Claim
import GoSem.ClaimJoined
import GoSem.ClaimMapViews
import Derived.JoinedTies
import Derived.KernelRfl
namespace Go.Proofs.Ytgpjjbfmckcjgaa
/- THE CELL 'sum', in the pinned program and in every row, IS THE sha256 OF THE DUMP (.gsa) THAT YtgpjjbfmckcjgaaProg.lean LOADS. Nothing in Lean hashes anything: it is a label: what it is worth is what the hold of that sum in a sandbox is worth. -/
noncomputable def Try.pinned : Pinned := { name := "ytgpjjbfmckcjgaa", sum := "da863a6a579b684c994e4274467fe8ce2b90696eed42edea60ef1f83e6281e54", checked := Try.checked }
namespace Rows
def none {H : Type} : Left H := { results := [], args := [] }

/-- 'latchgarthlaw5.ElectOne': WHATEVER THE INPUT: true; the input reads as it did. -/
def electOneSpec : ChangeSpec := { name := "electOne", fn := fun _ => fun
  | [d1, d2] => { results := [.lit (.bool true)], args := [d1, d2] }
  | _ => none }
def electOneRow : OpenClaim := { program := "ytgpjjbfmckcjgaa", sum := "da863a6a579b684c994e4274467fe8ce2b90696eed42edea60ef1f83e6281e54", func := "latchgarth/latchgarthlaw5.ElectOne", spec := "electOne", apart := false }
def ElectOneSaid : Prop := electOneRow.holds Try.pinned (OpenSpec.ofChange electOneSpec)

/-- ITS FALSE NEIGHBOUR: 'it returns false'. Refute it at one input. -/
def electOneWrong : ChangeSpec := { name := "electOne", fn := fun _ => fun
  | [d1, d2] => { results := [.lit (.bool false)], args := [d1, d2] }
  | _ => none }
def ElectOneWrongFalsely : Prop := electOneRow.holds Try.pinned (OpenSpec.ofChange electOneWrong)

/-- 'latchgarthlaw5.ElectGoes': WHATEVER THE INPUT: true; the input reads as it did. -/
def electGoesSpec : ChangeSpec := { name := "electGoes", fn := fun _ => fun
  | [d1, d2] => { results := [.lit (.bool true)], args := [d1, d2] }
  | _ => none }
def electGoesRow : OpenClaim := { program := "ytgpjjbfmckcjgaa", sum := "da863a6a579b684c994e4274467fe8ce2b90696eed42edea60ef1f83e6281e54", func := "latchgarth/latchgarthlaw5.ElectGoes", spec := "electGoes", apart := false }
def ElectGoesSaid : Prop := electGoesRow.holds Try.pinned (OpenSpec.ofChange electGoesSpec)

/-- ITS FALSE NEIGHBOUR: 'it returns false'. Refute it at one input. -/
def electGoesWrong : ChangeSpec := { name := "electGoes", fn := fun _ => fun
  | [d1, d2] => { results := [.lit (.bool false)], args := [d1, d2] }
  | _ => none }
def ElectGoesWrongFalsely : Prop := electGoesRow.holds Try.pinned (OpenSpec.ofChange electGoesWrong)

/-- 'latchgarthtop.TopWire': WHATEVER THE INPUT: true; the input reads as it did. -/
def topWireSpec : ChangeSpec := { name := "topWire", fn := fun _ => fun
  | [d1, d2, d3] => { results := [.lit (.bool true)], args := [d1, d2, d3] }
  | _ => none }
def topWireRow : OpenClaim := { program := "ytgpjjbfmckcjgaa", sum := "da863a6a579b684c994e4274467fe8ce2b90696eed42edea60ef1f83e6281e54", func := "latchgarth/latchgarthtop.TopWire", spec := "topWire", inPlace := ["slices.overlaps[latchgarth/bit.frame]"], apart := false }
def TopWireSaid : Prop := topWireRow.holds Try.pinned (OpenSpec.ofChange topWireSpec)

/-- ITS FALSE NEIGHBOUR: 'it returns false'. Refute it at one input. -/
def topWireWrong : ChangeSpec := { name := "topWire", fn := fun _ => fun
  | [d1, d2, d3] => { results := [.lit (.bool false)], args := [d1, d2, d3] }
  | _ => none }
def TopWireWrongFalsely : Prop := topWireRow.holds Try.pinned (OpenSpec.ofChange topWireWrong)

/-- 'latchgarthlaw5.BitOrder': WHATEVER THE INPUT: true; the input reads as it did. -/
def bitOrderSpec : ChangeSpec := { name := "bitOrder", fn := fun _ => fun
  | [d1, d2] => { results := [.lit (.bool true)], args := [d1, d2] }
  | _ => none }
def bitOrderRow : OpenClaim := { program := "ytgpjjbfmckcjgaa", sum := "da863a6a579b684c994e4274467fe8ce2b90696eed42edea60ef1f83e6281e54", func := "latchgarth/latchgarthlaw5.BitOrder", spec := "bitOrder", inPlace := ["slices.overlaps[latchgarth/bit.frame]"], apart := false }
def BitOrderSaid : Prop := bitOrderRow.holds Try.pinned (OpenSpec.ofChange bitOrderSpec)

/-- ITS FALSE NEIGHBOUR: 'it returns false'. Refute it at one input. -/
def bitOrderWrong : ChangeSpec := { name := "bitOrder", fn := fun _ => fun
  | [d1, d2] => { results := [.lit (.bool false)], args := [d1, d2] }
  | _ => none }
def BitOrderWrongFalsely : Prop := bitOrderRow.holds Try.pinned (OpenSpec.ofChange bitOrderWrong)

/-- 'latchgarthlaw5.BitGoes': WHATEVER THE INPUT: true; the input reads as it did. -/
def bitGoesSpec : ChangeSpec := { name := "bitGoes", fn := fun _ => fun
  | [d1, d2] => { results := [.lit (.bool true)], args := [d1, d2] }
  | _ => none }
def bitGoesRow : OpenClaim := { program := "ytgpjjbfmckcjgaa", sum := "da863a6a579b684c994e4274467fe8ce2b90696eed42edea60ef1f83e6281e54", func := "latchgarth/latchgarthlaw5.BitGoes", spec := "bitGoes", inPlace := ["slices.overlaps[latchgarth/bit.frame]"], apart := false }
def BitGoesSaid : Prop := bitGoesRow.holds Try.pinned (OpenSpec.ofChange bitGoesSpec)

/-- ITS FALSE NEIGHBOUR: 'it returns false'. Refute it at one input. -/
def bitGoesWrong : ChangeSpec := { name := "bitGoes", fn := fun _ => fun
  | [d1, d2] => { results := [.lit (.bool false)], args := [d1, d2] }
  | _ => none }
def BitGoesWrongFalsely : Prop := bitGoesRow.holds Try.pinned (OpenSpec.ofChange bitGoesWrong)

/- THE SECOND FORM. 'bulk': how many values and letters a reading holds, each counted each time it is reached (what is shared counts as often as it is met; a slice's spare places count too). A statement '..UptoSaid' is the law's where the arguments, and the package variables that the reading takes, are together of bulk at most 1048576: NARROWER than '..Said'. Prove '..Said' where nothing that the law and all that it calls make is longer than what came in: it says more and counts as full. Else prove '..UptoSaid'. A law counts once. -/
mutual
def uptoBulk {H : Type} : DataW H → Nat
  | .lit (.string bytes) => bytes.length + 1
  | .lit _ => 1
  | .nil => 1
  | .ptr d => uptoBulk d + 1
  | .slice elems spare => uptoBulkAll elems + uptoBulkAll spare + 1
  | .agg parts => uptoBulkAll parts + 1
  | .iface _ d => uptoBulk d + 1
  | .map entries => uptoBulkEntries entries + 1
  | .held _ => 1
def uptoBulkAll {H : Type} : List (DataW H) → Nat
  | [] => 0
  | d :: r => uptoBulk d + uptoBulkAll r
def uptoBulkEntries {H : Type} : List (Lit × DataW H) → Nat
  | [] => 0
  | x :: r => uptoBulkEntry x + uptoBulkEntries r
def uptoBulkEntry {H : Type} : Lit × DataW H → Nat
  | (.string bytes, d) => bytes.length + uptoBulk d + 1
  | (_, d) => uptoBulk d + 1
 end
def uptoSmall : (H : Type) → List (DataW H) → Bool := fun _ ds => decide (uptoBulkAll ds ≤ 1048576)
def OpenSpec.upto (s : _root_.Go.ChangeSpec) : _root_.Go.OpenSpec := { _root_.Go.OpenSpec.ofChange s with cond := some uptoSmall }

/-- 'latchgarthlaw5.ElectOne', WHERE WHAT IT READS IS OF BULK AT MOST 1048576: true; the input reads as it did. -/
def electOneUptoRow : OpenClaim := { program := "ytgpjjbfmckcjgaa", sum := "da863a6a579b684c994e4274467fe8ce2b90696eed42edea60ef1f83e6281e54", func := "latchgarth/latchgarthlaw5.ElectOne", spec := "electOne", apart := false, narrowed := true }
def ElectOneUptoSaid : Prop := electOneUptoRow.holds Try.pinned (OpenSpec.upto electOneSpec)

/-- 'latchgarthlaw5.ElectGoes', WHERE WHAT IT READS IS OF BULK AT MOST 1048576: true; the input reads as it did. -/
def electGoesUptoRow : OpenClaim := { program := "ytgpjjbfmckcjgaa", sum := "da863a6a579b684c994e4274467fe8ce2b90696eed42edea60ef1f83e6281e54", func := "latchgarth/latchgarthlaw5.ElectGoes", spec := "electGoes", apart := false, narrowed := true }
def ElectGoesUptoSaid : Prop := electGoesUptoRow.holds Try.pinned (OpenSpec.upto electGoesSpec)

/-- 'latchgarthtop.TopWire', WHERE WHAT IT READS IS OF BULK AT MOST 1048576: true; the input reads as it did. -/
def topWireUptoRow : OpenClaim := { program := "ytgpjjbfmckcjgaa", sum := "da863a6a579b684c994e4274467fe8ce2b90696eed42edea60ef1f83e6281e54", func := "latchgarth/latchgarthtop.TopWire", spec := "topWire", inPlace := ["slices.overlaps[latchgarth/bit.frame]"], apart := false, narrowed := true }
def TopWireUptoSaid : Prop := topWireUptoRow.holds Try.pinned (OpenSpec.upto topWireSpec)

/-- 'latchgarthlaw5.BitOrder', WHERE WHAT IT READS IS OF BULK AT MOST 1048576: true; the input reads as it did. -/
def bitOrderUptoRow : OpenClaim := { program := "ytgpjjbfmckcjgaa", sum := "da863a6a579b684c994e4274467fe8ce2b90696eed42edea60ef1f83e6281e54", func := "latchgarth/latchgarthlaw5.BitOrder", spec := "bitOrder", inPlace := ["slices.overlaps[latchgarth/bit.frame]"], apart := false, narrowed := true }
def BitOrderUptoSaid : Prop := bitOrderUptoRow.holds Try.pinned (OpenSpec.upto bitOrderSpec)

/-- 'latchgarthlaw5.BitGoes', WHERE WHAT IT READS IS OF BULK AT MOST 1048576: true; the input reads as it did. -/
def bitGoesUptoRow : OpenClaim := { program := "ytgpjjbfmckcjgaa", sum := "da863a6a579b684c994e4274467fe8ce2b90696eed42edea60ef1f83e6281e54", func := "latchgarth/latchgarthlaw5.BitGoes", spec := "bitGoes", inPlace := ["slices.overlaps[latchgarth/bit.frame]"], apart := false, narrowed := true }
def BitGoesUptoSaid : Prop := bitGoesUptoRow.holds Try.pinned (OpenSpec.upto bitGoesSpec)

end Rows
end Go.Proofs.Ytgpjjbfmckcjgaa
