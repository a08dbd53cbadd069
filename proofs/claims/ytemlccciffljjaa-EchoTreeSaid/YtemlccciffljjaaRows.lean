/-
  No cell of these rows narrows 'for every input' (looked for: loops, veiled, ifaces, maps, wideKeys, modest, calm, conditions, laid).
  DERIVED. THE GIVEN ROWS OF THIS SEAT. 2 by the template 'for every input the law returns true; each argument reads behind the call as it read before'; 0 by the template 'total and deterministic' (their statements: YtemlccciffljjaaTotals.lean).
  GIVEN WITH THE SEED: the statements are not yours to turn. If you find one false, say at which input.
  Laid BY PROGRAM, IN A SANDBOX (cutbox-rows.mjs): the forced cells as the released guide's own fill.sh prints them over the translation 4dd2efe3ff141d0f… (all of the seat's roots in one cut). By AI agents, Wed Nov 11 2026. No macro, syntax, notation, axiom, sorry.
-/
import Derived.Test.YtemlccciffljjaaChecked
import GoSem.Claim
import GoSem.ClaimJoined
import GoSem.ClaimMapViews
import Derived.JoinedTies
import Derived.KernelRfl
namespace Go.Proofs.Ytemlccciffljjaa
/- THE CELL 'sum', in the pinned program and in every row, IS THE sha256 OF THE DUMP (.gsa) THAT YtemlccciffljjaaProg.lean LOADS. Nothing in Lean hashes anything: it is a label: what it is worth is what the hold of that sum in a sandbox is worth. -/
noncomputable def Try.pinned : Pinned := { name := "ytemlccciffljjaa", sum := "4dd2efe3ff141d0fa4e477800f65264820f7990337190b6f510967169853f182", checked := Try.checked }
namespace Rows
def none {H : Type} : Left H := { results := [], args := [] }

/-- 'latchgarthlaw5.EchoGoes': WHATEVER THE INPUT: true; the input reads as it did. -/
def echoGoesSpec : ChangeSpec := { name := "echoGoes", fn := fun _ => fun
  | [d1, d2] => { results := [.lit (.bool true)], args := [d1, d2] }
  | _ => none }
def echoGoesRow : OpenClaim := { program := "ytemlccciffljjaa", sum := "4dd2efe3ff141d0fa4e477800f65264820f7990337190b6f510967169853f182", func := "latchgarth/latchgarthlaw5.EchoGoes", spec := "echoGoes", apart := false }
def EchoGoesSaid : Prop := echoGoesRow.holds Try.pinned (OpenSpec.ofChange echoGoesSpec)

/-- ITS FALSE NEIGHBOUR: 'it returns false'. Refute it at one input. -/
def echoGoesWrong : ChangeSpec := { name := "echoGoes", fn := fun _ => fun
  | [d1, d2] => { results := [.lit (.bool false)], args := [d1, d2] }
  | _ => none }
def EchoGoesWrongFalsely : Prop := echoGoesRow.holds Try.pinned (OpenSpec.ofChange echoGoesWrong)

/-- 'latchgarthlaw5.EchoTree': WHATEVER THE INPUT: true; the input reads as it did. -/
def echoTreeSpec : ChangeSpec := { name := "echoTree", fn := fun _ => fun
  | [d1, d2] => { results := [.lit (.bool true)], args := [d1, d2] }
  | _ => none }
def echoTreeRow : OpenClaim := { program := "ytemlccciffljjaa", sum := "4dd2efe3ff141d0fa4e477800f65264820f7990337190b6f510967169853f182", func := "latchgarth/latchgarthlaw5.EchoTree", spec := "echoTree", apart := false }
def EchoTreeSaid : Prop := echoTreeRow.holds Try.pinned (OpenSpec.ofChange echoTreeSpec)

/-- ITS FALSE NEIGHBOUR: 'it returns false'. Refute it at one input. -/
def echoTreeWrong : ChangeSpec := { name := "echoTree", fn := fun _ => fun
  | [d1, d2] => { results := [.lit (.bool false)], args := [d1, d2] }
  | _ => none }
def EchoTreeWrongFalsely : Prop := echoTreeRow.holds Try.pinned (OpenSpec.ofChange echoTreeWrong)

/- THE SECOND FORM. 'bulk': how many values and letters a reading holds, each counted each time it is reached (what is shared counts as often as it is met; a slice's spare places count too). A statement '..UptoSaid' is the law's where the arguments, and the package variables that the reading takes, are together of bulk at most 1048576: NARROWER than '..Said'. Prove '..Said' where nothing that the law and all that it calls make is longer than what came in: it says more and counts as full. Else prove '..UptoSaid'. A law counts once. -/
mutual
def uptoBulk {H : Type} : DataW H → Nat
  | .lit (.string bytes) => bytes.length + 1
  | .lit _ => 1
  | .nil => 1
  | .ptr d => uptoBulk d + 1
  | .slice elems spare => uptoBulkAll elems + uptoBulkAll spare + 1
  | .agg parts => uptoBulkAll parts + 1
  | .iface _ d => uptoBulk d + 1
  | .map entries => uptoBulkEntries entries + 1
  | .held _ => 1
def uptoBulkAll {H : Type} : List (DataW H) → Nat
  | [] => 0
  | d :: r => uptoBulk d + uptoBulkAll r
def uptoBulkEntries {H : Type} : List (Lit × DataW H) → Nat
  | [] => 0
  | x :: r => uptoBulkEntry x + uptoBulkEntries r
def uptoBulkEntry {H : Type} : Lit × DataW H → Nat
  | (.string bytes, d) => bytes.length + uptoBulk d + 1
  | (_, d) => uptoBulk d + 1
 end
def uptoSmall : (H : Type) → List (DataW H) → Bool := fun _ ds => decide (uptoBulkAll ds ≤ 1048576)
def OpenSpec.upto (s : _root_.Go.ChangeSpec) : _root_.Go.OpenSpec := { _root_.Go.OpenSpec.ofChange s with cond := some uptoSmall }

/-- 'latchgarthlaw5.EchoGoes', WHERE WHAT IT READS IS OF BULK AT MOST 1048576: true; the input reads as it did. -/
def echoGoesUptoRow : OpenClaim := { program := "ytemlccciffljjaa", sum := "4dd2efe3ff141d0fa4e477800f65264820f7990337190b6f510967169853f182", func := "latchgarth/latchgarthlaw5.EchoGoes", spec := "echoGoes", apart := false, narrowed := true }
def EchoGoesUptoSaid : Prop := echoGoesUptoRow.holds Try.pinned (OpenSpec.upto echoGoesSpec)

/-- 'latchgarthlaw5.EchoTree', WHERE WHAT IT READS IS OF BULK AT MOST 1048576: true; the input reads as it did. -/
def echoTreeUptoRow : OpenClaim := { program := "ytemlccciffljjaa", sum := "4dd2efe3ff141d0fa4e477800f65264820f7990337190b6f510967169853f182", func := "latchgarth/latchgarthlaw5.EchoTree", spec := "echoTree", apart := false, narrowed := true }
def EchoTreeUptoSaid : Prop := echoTreeUptoRow.holds Try.pinned (OpenSpec.upto echoTreeSpec)

end Rows
end Go.Proofs.Ytemlccciffljjaa
