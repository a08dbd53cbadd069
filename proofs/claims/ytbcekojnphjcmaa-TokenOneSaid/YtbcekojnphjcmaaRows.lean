/-
  No cell of these rows narrows 'for every input' (looked for: loops, veiled, ifaces, maps, wideKeys, modest, calm, conditions, laid).
  DERIVED. THE GIVEN ROWS OF THIS SEAT. 3 by the template 'for every input the law returns true; each argument reads behind the call as it read before'; 0 by the template 'total and deterministic' (their statements: YtbcekojnphjcmaaTotals.lean).
  GIVEN WITH THE SEED: the statements are not yours to turn. If you find one false, say at which input.
  Laid BY PROGRAM, IN A SANDBOX (cutbox-rows.mjs): the forced cells as the released guide's own fill.sh prints them over the translation c0b939893d08f05c… (all of the seat's roots in one cut). By AI agents, Wed Nov 11 2026. No macro, syntax, notation, axiom, sorry.
-/
import Derived.Test.YtbcekojnphjcmaaChecked
import GoSem.Claim
import GoSem.ClaimJoined
import GoSem.ClaimMapViews
import Derived.JoinedTies
import Derived.KernelRfl
namespace Go.Proofs.Ytbcekojnphjcmaa
/- THE CELL 'sum', in the pinned program and in every row, IS THE sha256 OF THE DUMP (.gsa) THAT YtbcekojnphjcmaaProg.lean LOADS. Nothing in Lean hashes anything: it is a label: what it is worth is what the hold of that sum in a sandbox is worth. -/
noncomputable def Try.pinned : Pinned := { name := "ytbcekojnphjcmaa", sum := "c0b939893d08f05c3ef32649f39f346328c858a97aab3c6dbaae81dcadec26e5", checked := Try.checked }
namespace Rows
def none {H : Type} : Left H := { results := [], args := [] }

/-- 'latchgarthlaw5.TokenOne': WHATEVER THE INPUT: true; the input reads as it did. -/
def tokenOneSpec : ChangeSpec := { name := "tokenOne", fn := fun _ => fun
  | [d1, d2] => { results := [.lit (.bool true)], args := [d1, d2] }
  | _ => none }
def tokenOneRow : OpenClaim := { program := "ytbcekojnphjcmaa", sum := "c0b939893d08f05c3ef32649f39f346328c858a97aab3c6dbaae81dcadec26e5", func := "latchgarth/latchgarthlaw5.TokenOne", spec := "tokenOne", apart := false }
def TokenOneSaid : Prop := tokenOneRow.holds Try.pinned (OpenSpec.ofChange tokenOneSpec)

/-- ITS FALSE NEIGHBOUR: 'it returns false'. Refute it at one input. -/
def tokenOneWrong : ChangeSpec := { name := "tokenOne", fn := fun _ => fun
  | [d1, d2] => { results := [.lit (.bool false)], args := [d1, d2] }
  | _ => none }
def TokenOneWrongFalsely : Prop := tokenOneRow.holds Try.pinned (OpenSpec.ofChange tokenOneWrong)

/-- 'latchgarthlaw5.TokenGoes': WHATEVER THE INPUT: true; the input reads as it did. -/
def tokenGoesSpec : ChangeSpec := { name := "tokenGoes", fn := fun _ => fun
  | [d1, d2] => { results := [.lit (.bool true)], args := [d1, d2] }
  | _ => none }
def tokenGoesRow : OpenClaim := { program := "ytbcekojnphjcmaa", sum := "c0b939893d08f05c3ef32649f39f346328c858a97aab3c6dbaae81dcadec26e5", func := "latchgarth/latchgarthlaw5.TokenGoes", spec := "tokenGoes", apart := false }
def TokenGoesSaid : Prop := tokenGoesRow.holds Try.pinned (OpenSpec.ofChange tokenGoesSpec)

/-- ITS FALSE NEIGHBOUR: 'it returns false'. Refute it at one input. -/
def tokenGoesWrong : ChangeSpec := { name := "tokenGoes", fn := fun _ => fun
  | [d1, d2] => { results := [.lit (.bool false)], args := [d1, d2] }
  | _ => none }
def TokenGoesWrongFalsely : Prop := tokenGoesRow.holds Try.pinned (OpenSpec.ofChange tokenGoesWrong)

/-- 'latchgarthlaw5.TokenMany': WHATEVER THE INPUT: true; the input reads as it did. -/
def tokenManySpec : ChangeSpec := { name := "tokenMany", fn := fun _ => fun
  | [d1, d2] => { results := [.lit (.bool true)], args := [d1, d2] }
  | _ => none }
def tokenManyRow : OpenClaim := { program := "ytbcekojnphjcmaa", sum := "c0b939893d08f05c3ef32649f39f346328c858a97aab3c6dbaae81dcadec26e5", func := "latchgarth/latchgarthlaw5.TokenMany", spec := "tokenMany", apart := false }
def TokenManySaid : Prop := tokenManyRow.holds Try.pinned (OpenSpec.ofChange tokenManySpec)

/-- ITS FALSE NEIGHBOUR: 'it returns false'. Refute it at one input. -/
def tokenManyWrong : ChangeSpec := { name := "tokenMany", fn := fun _ => fun
  | [d1, d2] => { results := [.lit (.bool false)], args := [d1, d2] }
  | _ => none }
def TokenManyWrongFalsely : Prop := tokenManyRow.holds Try.pinned (OpenSpec.ofChange tokenManyWrong)

/- THE SECOND FORM. 'bulk': how many values and letters a reading holds, each counted each time it is reached (what is shared counts as often as it is met; a slice's spare places count too). A statement '..UptoSaid' is the law's where the arguments, and the package variables that the reading takes, are together of bulk at most 1048576: NARROWER than '..Said'. Prove '..Said' where nothing that the law and all that it calls make is longer than what came in: it says more and counts as full. Else prove '..UptoSaid'. A law counts once. -/
mutual
def uptoBulk {H : Type} : DataW H → Nat
  | .lit (.string bytes) => bytes.length + 1
  | .lit _ => 1
  | .nil => 1
  | .ptr d => uptoBulk d + 1
  | .slice elems spare => uptoBulkAll elems + uptoBulkAll spare + 1
  | .agg parts => uptoBulkAll parts + 1
  | .iface _ d => uptoBulk d + 1
  | .map entries => uptoBulkEntries entries + 1
  | .held _ => 1
def uptoBulkAll {H : Type} : List (DataW H) → Nat
  | [] => 0
  | d :: r => uptoBulk d + uptoBulkAll r
def uptoBulkEntries {H : Type} : List (Lit × DataW H) → Nat
  | [] => 0
  | x :: r => uptoBulkEntry x + uptoBulkEntries r
def uptoBulkEntry {H : Type} : Lit × DataW H → Nat
  | (.string bytes, d) => bytes.length + uptoBulk d + 1
  | (_, d) => uptoBulk d + 1
 end
def uptoSmall : (H : Type) → List (DataW H) → Bool := fun _ ds => decide (uptoBulkAll ds ≤ 1048576)
def OpenSpec.upto (s : _root_.Go.ChangeSpec) : _root_.Go.OpenSpec := { _root_.Go.OpenSpec.ofChange s with cond := some uptoSmall }

/-- 'latchgarthlaw5.TokenOne', WHERE WHAT IT READS IS OF BULK AT MOST 1048576: true; the input reads as it did. -/
def tokenOneUptoRow : OpenClaim := { program := "ytbcekojnphjcmaa", sum := "c0b939893d08f05c3ef32649f39f346328c858a97aab3c6dbaae81dcadec26e5", func := "latchgarth/latchgarthlaw5.TokenOne", spec := "tokenOne", apart := false, narrowed := true }
def TokenOneUptoSaid : Prop := tokenOneUptoRow.holds Try.pinned (OpenSpec.upto tokenOneSpec)

/-- 'latchgarthlaw5.TokenGoes', WHERE WHAT IT READS IS OF BULK AT MOST 1048576: true; the input reads as it did. -/
def tokenGoesUptoRow : OpenClaim := { program := "ytbcekojnphjcmaa", sum := "c0b939893d08f05c3ef32649f39f346328c858a97aab3c6dbaae81dcadec26e5", func := "latchgarth/latchgarthlaw5.TokenGoes", spec := "tokenGoes", apart := false, narrowed := true }
def TokenGoesUptoSaid : Prop := tokenGoesUptoRow.holds Try.pinned (OpenSpec.upto tokenGoesSpec)

/-- 'latchgarthlaw5.TokenMany', WHERE WHAT IT READS IS OF BULK AT MOST 1048576: true; the input reads as it did. -/
def tokenManyUptoRow : OpenClaim := { program := "ytbcekojnphjcmaa", sum := "c0b939893d08f05c3ef32649f39f346328c858a97aab3c6dbaae81dcadec26e5", func := "latchgarth/latchgarthlaw5.TokenMany", spec := "tokenMany", apart := false, narrowed := true }
def TokenManyUptoSaid : Prop := tokenManyUptoRow.holds Try.pinned (OpenSpec.upto tokenManySpec)

end Rows
end Go.Proofs.Ytbcekojnphjcmaa
