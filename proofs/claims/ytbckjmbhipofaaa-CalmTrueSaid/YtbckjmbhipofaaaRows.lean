/-
  No cell of these rows narrows 'for every input' (looked for: loops, veiled, ifaces, maps, wideKeys, modest, calm, conditions, laid).
  DERIVED. THE GIVEN ROWS OF THIS SEAT. 3 by the template 'for every input the law returns true; each argument reads behind the call as it read before'; 0 by the template 'total and deterministic' (their statements: YtbckjmbhipofaaaTotals.lean).
  GIVEN WITH THE SEED: the statements are not yours to turn. If you find one false, say at which input.
  Laid BY PROGRAM, IN A SANDBOX (cutbox-rows.mjs): the forced cells as the released guide's own fill.sh prints them over the translation f5855defd571f0d7… (all of the seat's roots in one cut). By AI agents, Wed Nov 11 2026. No macro, syntax, notation, axiom, sorry.
-/
import Derived.Test.YtbckjmbhipofaaaChecked
import GoSem.Claim
import GoSem.ClaimJoined
import GoSem.ClaimMapViews
import Derived.JoinedTies
import Derived.KernelRfl
namespace Go.Proofs.Ytbckjmbhipofaaa
/- THE CELL 'sum', in the pinned program and in every row, IS THE sha256 OF THE DUMP (.gsa) THAT YtbckjmbhipofaaaProg.lean LOADS. Nothing in Lean hashes anything: it is a label: what it is worth is what the hold of that sum in a sandbox is worth. -/
noncomputable def Try.pinned : Pinned := { name := "ytbckjmbhipofaaa", sum := "f5855defd571f0d732739953b0acd1aa3dab4a317d0998b640c65a3ceb066c6c", checked := Try.checked }
namespace Rows
def none {H : Type} : Left H := { results := [], args := [] }

/-- 'latchgarthlaw5.CalmGoes': WHATEVER THE INPUT: true; the input reads as it did. -/
def calmGoesSpec : ChangeSpec := { name := "calmGoes", fn := fun _ => fun
  | [d1, d2] => { results := [.lit (.bool true)], args := [d1, d2] }
  | _ => none }
def calmGoesRow : OpenClaim := { program := "ytbckjmbhipofaaa", sum := "f5855defd571f0d732739953b0acd1aa3dab4a317d0998b640c65a3ceb066c6c", func := "latchgarth/latchgarthlaw5.CalmGoes", spec := "calmGoes", apart := false }
def CalmGoesSaid : Prop := calmGoesRow.holds Try.pinned (OpenSpec.ofChange calmGoesSpec)

/-- ITS FALSE NEIGHBOUR: 'it returns false'. Refute it at one input. -/
def calmGoesWrong : ChangeSpec := { name := "calmGoes", fn := fun _ => fun
  | [d1, d2] => { results := [.lit (.bool false)], args := [d1, d2] }
  | _ => none }
def CalmGoesWrongFalsely : Prop := calmGoesRow.holds Try.pinned (OpenSpec.ofChange calmGoesWrong)

/-- 'latchgarthlaw5.CalmThanks': WHATEVER THE INPUT: true; the input reads as it did. -/
def calmThanksSpec : ChangeSpec := { name := "calmThanks", fn := fun _ => fun
  | [d1, d2] => { results := [.lit (.bool true)], args := [d1, d2] }
  | _ => none }
def calmThanksRow : OpenClaim := { program := "ytbckjmbhipofaaa", sum := "f5855defd571f0d732739953b0acd1aa3dab4a317d0998b640c65a3ceb066c6c", func := "latchgarth/latchgarthlaw5.CalmThanks", spec := "calmThanks", apart := false }
def CalmThanksSaid : Prop := calmThanksRow.holds Try.pinned (OpenSpec.ofChange calmThanksSpec)

/-- ITS FALSE NEIGHBOUR: 'it returns false'. Refute it at one input. -/
def calmThanksWrong : ChangeSpec := { name := "calmThanks", fn := fun _ => fun
  | [d1, d2] => { results := [.lit (.bool false)], args := [d1, d2] }
  | _ => none }
def CalmThanksWrongFalsely : Prop := calmThanksRow.holds Try.pinned (OpenSpec.ofChange calmThanksWrong)

/-- 'latchgarthlaw5.CalmTrue': WHATEVER THE INPUT: true; the input reads as it did. -/
def calmTrueSpec : ChangeSpec := { name := "calmTrue", fn := fun _ => fun
  | [d1, d2] => { results := [.lit (.bool true)], args := [d1, d2] }
  | _ => none }
def calmTrueRow : OpenClaim := { program := "ytbckjmbhipofaaa", sum := "f5855defd571f0d732739953b0acd1aa3dab4a317d0998b640c65a3ceb066c6c", func := "latchgarth/latchgarthlaw5.CalmTrue", spec := "calmTrue", apart := false }
def CalmTrueSaid : Prop := calmTrueRow.holds Try.pinned (OpenSpec.ofChange calmTrueSpec)

/-- ITS FALSE NEIGHBOUR: 'it returns false'. Refute it at one input. -/
def calmTrueWrong : ChangeSpec := { name := "calmTrue", fn := fun _ => fun
  | [d1, d2] => { results := [.lit (.bool false)], args := [d1, d2] }
  | _ => none }
def CalmTrueWrongFalsely : Prop := calmTrueRow.holds Try.pinned (OpenSpec.ofChange calmTrueWrong)

/- THE SECOND FORM. 'bulk': how many values and letters a reading holds, each counted each time it is reached (what is shared counts as often as it is met; a slice's spare places count too). A statement '..UptoSaid' is the law's where the arguments, and the package variables that the reading takes, are together of bulk at most 1048576: NARROWER than '..Said'. Prove '..Said' where nothing that the law and all that it calls make is longer than what came in: it says more and counts as full. Else prove '..UptoSaid'. A law counts once. -/
mutual
def uptoBulk {H : Type} : DataW H → Nat
  | .lit (.string bytes) => bytes.length + 1
  | .lit _ => 1
  | .nil => 1
  | .ptr d => uptoBulk d + 1
  | .slice elems spare => uptoBulkAll elems + uptoBulkAll spare + 1
  | .agg parts => uptoBulkAll parts + 1
  | .iface _ d => uptoBulk d + 1
  | .map entries => uptoBulkEntries entries + 1
  | .held _ => 1
def uptoBulkAll {H : Type} : List (DataW H) → Nat
  | [] => 0
  | d :: r => uptoBulk d + uptoBulkAll r
def uptoBulkEntries {H : Type} : List (Lit × DataW H) → Nat
  | [] => 0
  | x :: r => uptoBulkEntry x + uptoBulkEntries r
def uptoBulkEntry {H : Type} : Lit × DataW H → Nat
  | (.string bytes, d) => bytes.length + uptoBulk d + 1
  | (_, d) => uptoBulk d + 1
 end
def uptoSmall : (H : Type) → List (DataW H) → Bool := fun _ ds => decide (uptoBulkAll ds ≤ 1048576)
def OpenSpec.upto (s : _root_.Go.ChangeSpec) : _root_.Go.OpenSpec := { _root_.Go.OpenSpec.ofChange s with cond := some uptoSmall }

/-- 'latchgarthlaw5.CalmGoes', WHERE WHAT IT READS IS OF BULK AT MOST 1048576: true; the input reads as it did. -/
def calmGoesUptoRow : OpenClaim := { program := "ytbckjmbhipofaaa", sum := "f5855defd571f0d732739953b0acd1aa3dab4a317d0998b640c65a3ceb066c6c", func := "latchgarth/latchgarthlaw5.CalmGoes", spec := "calmGoes", apart := false, narrowed := true }
def CalmGoesUptoSaid : Prop := calmGoesUptoRow.holds Try.pinned (OpenSpec.upto calmGoesSpec)

/-- 'latchgarthlaw5.CalmThanks', WHERE WHAT IT READS IS OF BULK AT MOST 1048576: true; the input reads as it did. -/
def calmThanksUptoRow : OpenClaim := { program := "ytbckjmbhipofaaa", sum := "f5855defd571f0d732739953b0acd1aa3dab4a317d0998b640c65a3ceb066c6c", func := "latchgarth/latchgarthlaw5.CalmThanks", spec := "calmThanks", apart := false, narrowed := true }
def CalmThanksUptoSaid : Prop := calmThanksUptoRow.holds Try.pinned (OpenSpec.upto calmThanksSpec)

/-- 'latchgarthlaw5.CalmTrue', WHERE WHAT IT READS IS OF BULK AT MOST 1048576: true; the input reads as it did. -/
def calmTrueUptoRow : OpenClaim := { program := "ytbckjmbhipofaaa", sum := "f5855defd571f0d732739953b0acd1aa3dab4a317d0998b640c65a3ceb066c6c", func := "latchgarth/latchgarthlaw5.CalmTrue", spec := "calmTrue", apart := false, narrowed := true }
def CalmTrueUptoSaid : Prop := calmTrueUptoRow.holds Try.pinned (OpenSpec.upto calmTrueSpec)

end Rows
end Go.Proofs.Ytbckjmbhipofaaa
