/-
  NARROWER THAN 'FOR EVERY INPUT', by the rows' own cells (each row's printed sentence says how): CastOrder: laid · CastGoes: laid · CastFifo: laid · CastPlays: laid.
  DERIVED. THE GIVEN ROWS OF THIS SEAT. 4 by the template 'for every input the law returns true; each argument reads behind the call as it read before'; 0 by the template 'total and deterministic' (their statements: YtiakkhahohhpaaaDoorTotals.lean).
  GIVEN WITH THE SEED: the statements are not yours to turn. If you find one false, say at which input.
  Laid BY PROGRAM, IN A SANDBOX (cutbox-rows.mjs): the forced cells as the released guide's own fill.sh prints them over the translation 27808e217e21cb27… (all of the seat's roots in one cut). By AI agents, Wed Nov 11 2026. No macro, syntax, notation, axiom, sorry.
-/
import Derived.Test.YtiakkhahohhpaaaDoorChecked
import GoSem.Claim
import GoSem.ClaimJoined
import GoSem.ClaimMapViews
import Derived.JoinedTies
import Derived.KernelRfl
namespace Go.Proofs.YtiakkhahohhpaaaDoor
/- THE CELL 'sum', in the pinned program and in every row, IS THE sha256 OF THE DUMP (.gsa) THAT YtiakkhahohhpaaaDoorProg.lean LOADS. Nothing in Lean hashes anything: it is a label: what it is worth is what the hold of that sum in a sandbox is worth. -/
noncomputable def Tryd.pinned : Pinned := { name := "ytiakkhahohhpaaadoor", sum := "27808e217e21cb2742ed5ffe0c695f7bb4d647bf69195528e0934dc7fba2f787", checked := Tryd.checked }
namespace Rows
def none {H : Type} : Left H := { results := [], args := [] }

/- WHAT THE LISTED PACKAGE-LEVEL VARIABLES READ AS WHEN THE CALL BEGINS. Each datum BY PROGRAM (the guide's laid-datum.mjs) off the statement by which the dump's own 'gosem.cut.vars' lays the variable. In a bare row this is a premise. The card (YtiakkhahohhpaaaDoorCards.lean) ties it to the program's text. -/
def laid_errors_errorType {H : Type} : DataW H := .iface "internal/reflectlite.rtype" (.agg [.ptr (.lit (.string [101, 114, 114, 111, 114]))])

/-- 'latchgarthlaw5.CastOrder': WHATEVER THE INPUT: true; the input reads as it did. -/
def castOrderSpec : ChangeSpec := { name := "castOrder", fn := fun _ => fun
  | [d1, d2] => { results := [.lit (.bool true)], args := [d1, d2] }
  | _ => none }
def castOrderRow : OpenClaim := { program := "ytiakkhahohhpaaadoor", sum := "27808e217e21cb2742ed5ffe0c695f7bb4d647bf69195528e0934dc7fba2f787", func := "latchgarth/latchgarthlaw5.CastOrder", spec := "castOrder", inPlace := ["internal/reflectlite.ValueOf", "(internal/reflectlite.Value).Type", "(internal/reflectlite.Value).IsNil", "internal/reflectlite.TypeOf", "(internal/reflectlite.Value).Elem", "(internal/reflectlite.Value).Set"], unfollowed := true, recurses := true, named := ["errors.errorType"], apart := false, laid := [("errors.errorType", laid_errors_errorType)] }
def CastOrderSaid : Prop := castOrderRow.holds Tryd.pinned (OpenSpec.ofChange castOrderSpec)

/-- ITS FALSE NEIGHBOUR: 'it returns false'. Refute it at one input. -/
def castOrderWrong : ChangeSpec := { name := "castOrder", fn := fun _ => fun
  | [d1, d2] => { results := [.lit (.bool false)], args := [d1, d2] }
  | _ => none }
def CastOrderWrongFalsely : Prop := castOrderRow.holds Tryd.pinned (OpenSpec.ofChange castOrderWrong)

/-- 'latchgarthlaw5.CastGoes': WHATEVER THE INPUT: true; the input reads as it did. -/
def castGoesSpec : ChangeSpec := { name := "castGoes", fn := fun _ => fun
  | [d1, d2] => { results := [.lit (.bool true)], args := [d1, d2] }
  | _ => none }
def castGoesRow : OpenClaim := { program := "ytiakkhahohhpaaadoor", sum := "27808e217e21cb2742ed5ffe0c695f7bb4d647bf69195528e0934dc7fba2f787", func := "latchgarth/latchgarthlaw5.CastGoes", spec := "castGoes", inPlace := ["internal/reflectlite.ValueOf", "(internal/reflectlite.Value).Type", "(internal/reflectlite.Value).IsNil", "internal/reflectlite.TypeOf", "(internal/reflectlite.Value).Elem", "(internal/reflectlite.Value).Set"], unfollowed := true, recurses := true, named := ["errors.errorType"], apart := false, laid := [("errors.errorType", laid_errors_errorType)] }
def CastGoesSaid : Prop := castGoesRow.holds Tryd.pinned (OpenSpec.ofChange castGoesSpec)

/-- ITS FALSE NEIGHBOUR: 'it returns false'. Refute it at one input. -/
def castGoesWrong : ChangeSpec := { name := "castGoes", fn := fun _ => fun
  | [d1, d2] => { results := [.lit (.bool false)], args := [d1, d2] }
  | _ => none }
def CastGoesWrongFalsely : Prop := castGoesRow.holds Tryd.pinned (OpenSpec.ofChange castGoesWrong)

/-- 'latchgarthlaw5.CastFifo': WHATEVER THE INPUT: true; the input reads as it did. -/
def castFifoSpec : ChangeSpec := { name := "castFifo", fn := fun _ => fun
  | [d1, d2] => { results := [.lit (.bool true)], args := [d1, d2] }
  | _ => none }
def castFifoRow : OpenClaim := { program := "ytiakkhahohhpaaadoor", sum := "27808e217e21cb2742ed5ffe0c695f7bb4d647bf69195528e0934dc7fba2f787", func := "latchgarth/latchgarthlaw5.CastFifo", spec := "castFifo", inPlace := ["internal/reflectlite.ValueOf", "(internal/reflectlite.Value).Type", "(internal/reflectlite.Value).IsNil", "internal/reflectlite.TypeOf", "(internal/reflectlite.Value).Elem", "(internal/reflectlite.Value).Set"], unfollowed := true, recurses := true, named := ["errors.errorType"], apart := false, laid := [("errors.errorType", laid_errors_errorType)] }
def CastFifoSaid : Prop := castFifoRow.holds Tryd.pinned (OpenSpec.ofChange castFifoSpec)

/-- ITS FALSE NEIGHBOUR: 'it returns false'. Refute it at one input. -/
def castFifoWrong : ChangeSpec := { name := "castFifo", fn := fun _ => fun
  | [d1, d2] => { results := [.lit (.bool false)], args := [d1, d2] }
  | _ => none }
def CastFifoWrongFalsely : Prop := castFifoRow.holds Tryd.pinned (OpenSpec.ofChange castFifoWrong)

/-- 'latchgarthlaw5.CastPlays': WHATEVER THE INPUT: true; the input reads as it did. -/
def castPlaysSpec : ChangeSpec := { name := "castPlays", fn := fun _ => fun
  | [d1, d2] => { results := [.lit (.bool true)], args := [d1, d2] }
  | _ => none }
def castPlaysRow : OpenClaim := { program := "ytiakkhahohhpaaadoor", sum := "27808e217e21cb2742ed5ffe0c695f7bb4d647bf69195528e0934dc7fba2f787", func := "latchgarth/latchgarthlaw5.CastPlays", spec := "castPlays", inPlace := ["internal/reflectlite.ValueOf", "(internal/reflectlite.Value).Type", "(internal/reflectlite.Value).IsNil", "internal/reflectlite.TypeOf", "(internal/reflectlite.Value).Elem", "(internal/reflectlite.Value).Set"], unfollowed := true, recurses := true, named := ["errors.errorType"], apart := false, laid := [("errors.errorType", laid_errors_errorType)] }
def CastPlaysSaid : Prop := castPlaysRow.holds Tryd.pinned (OpenSpec.ofChange castPlaysSpec)

/-- ITS FALSE NEIGHBOUR: 'it returns false'. Refute it at one input. -/
def castPlaysWrong : ChangeSpec := { name := "castPlays", fn := fun _ => fun
  | [d1, d2] => { results := [.lit (.bool false)], args := [d1, d2] }
  | _ => none }
def CastPlaysWrongFalsely : Prop := castPlaysRow.holds Tryd.pinned (OpenSpec.ofChange castPlaysWrong)

/- THE SECOND FORM. 'bulk': how many values and letters a reading holds, each counted each time it is reached (what is shared counts as often as it is met; a slice's spare places count too). A statement '..UptoSaid' is the law's where the arguments, and the package variables that the reading takes, are together of bulk at most 1048576: NARROWER than '..Said'. Prove '..Said' where nothing that the law and all that it calls make is longer than what came in: it says more and counts as full. Else prove '..UptoSaid'. A law counts once. -/
mutual
def uptoBulk {H : Type} : DataW H → Nat
  | .lit (.string bytes) => bytes.length + 1
  | .lit _ => 1
  | .nil => 1
  | .ptr d => uptoBulk d + 1
  | .slice elems spare => uptoBulkAll elems + uptoBulkAll spare + 1
  | .agg parts => uptoBulkAll parts + 1
  | .iface _ d => uptoBulk d + 1
  | .map entries => uptoBulkEntries entries + 1
  | .held _ => 1
def uptoBulkAll {H : Type} : List (DataW H) → Nat
  | [] => 0
  | d :: r => uptoBulk d + uptoBulkAll r
def uptoBulkEntries {H : Type} : List (Lit × DataW H) → Nat
  | [] => 0
  | x :: r => uptoBulkEntry x + uptoBulkEntries r
def uptoBulkEntry {H : Type} : Lit × DataW H → Nat
  | (.string bytes, d) => bytes.length + uptoBulk d + 1
  | (_, d) => uptoBulk d + 1
 end
def uptoSmall : (H : Type) → List (DataW H) → Bool := fun _ ds => decide (uptoBulkAll ds ≤ 1048576)
def OpenSpec.upto (s : _root_.Go.ChangeSpec) : _root_.Go.OpenSpec := { _root_.Go.OpenSpec.ofChange s with cond := some uptoSmall }

/-- 'latchgarthlaw5.CastOrder', WHERE WHAT IT READS IS OF BULK AT MOST 1048576: true; the input reads as it did. -/
def castOrderUptoRow : OpenClaim := { program := "ytiakkhahohhpaaadoor", sum := "27808e217e21cb2742ed5ffe0c695f7bb4d647bf69195528e0934dc7fba2f787", func := "latchgarth/latchgarthlaw5.CastOrder", spec := "castOrder", inPlace := ["internal/reflectlite.ValueOf", "(internal/reflectlite.Value).Type", "(internal/reflectlite.Value).IsNil", "internal/reflectlite.TypeOf", "(internal/reflectlite.Value).Elem", "(internal/reflectlite.Value).Set"], unfollowed := true, recurses := true, named := ["errors.errorType"], apart := false, laid := [("errors.errorType", laid_errors_errorType)], narrowed := true }
def CastOrderUptoSaid : Prop := castOrderUptoRow.holds Tryd.pinned (OpenSpec.upto castOrderSpec)

/-- 'latchgarthlaw5.CastGoes', WHERE WHAT IT READS IS OF BULK AT MOST 1048576: true; the input reads as it did. -/
def castGoesUptoRow : OpenClaim := { program := "ytiakkhahohhpaaadoor", sum := "27808e217e21cb2742ed5ffe0c695f7bb4d647bf69195528e0934dc7fba2f787", func := "latchgarth/latchgarthlaw5.CastGoes", spec := "castGoes", inPlace := ["internal/reflectlite.ValueOf", "(internal/reflectlite.Value).Type", "(internal/reflectlite.Value).IsNil", "internal/reflectlite.TypeOf", "(internal/reflectlite.Value).Elem", "(internal/reflectlite.Value).Set"], unfollowed := true, recurses := true, named := ["errors.errorType"], apart := false, laid := [("errors.errorType", laid_errors_errorType)], narrowed := true }
def CastGoesUptoSaid : Prop := castGoesUptoRow.holds Tryd.pinned (OpenSpec.upto castGoesSpec)

/-- 'latchgarthlaw5.CastFifo', WHERE WHAT IT READS IS OF BULK AT MOST 1048576: true; the input reads as it did. -/
def castFifoUptoRow : OpenClaim := { program := "ytiakkhahohhpaaadoor", sum := "27808e217e21cb2742ed5ffe0c695f7bb4d647bf69195528e0934dc7fba2f787", func := "latchgarth/latchgarthlaw5.CastFifo", spec := "castFifo", inPlace := ["internal/reflectlite.ValueOf", "(internal/reflectlite.Value).Type", "(internal/reflectlite.Value).IsNil", "internal/reflectlite.TypeOf", "(internal/reflectlite.Value).Elem", "(internal/reflectlite.Value).Set"], unfollowed := true, recurses := true, named := ["errors.errorType"], apart := false, laid := [("errors.errorType", laid_errors_errorType)], narrowed := true }
def CastFifoUptoSaid : Prop := castFifoUptoRow.holds Tryd.pinned (OpenSpec.upto castFifoSpec)

/-- 'latchgarthlaw5.CastPlays', WHERE WHAT IT READS IS OF BULK AT MOST 1048576: true; the input reads as it did. -/
def castPlaysUptoRow : OpenClaim := { program := "ytiakkhahohhpaaadoor", sum := "27808e217e21cb2742ed5ffe0c695f7bb4d647bf69195528e0934dc7fba2f787", func := "latchgarth/latchgarthlaw5.CastPlays", spec := "castPlays", inPlace := ["internal/reflectlite.ValueOf", "(internal/reflectlite.Value).Type", "(internal/reflectlite.Value).IsNil", "internal/reflectlite.TypeOf", "(internal/reflectlite.Value).Elem", "(internal/reflectlite.Value).Set"], unfollowed := true, recurses := true, named := ["errors.errorType"], apart := false, laid := [("errors.errorType", laid_errors_errorType)], narrowed := true }
def CastPlaysUptoSaid : Prop := castPlaysUptoRow.holds Tryd.pinned (OpenSpec.upto castPlaysSpec)

end Rows
end Go.Proofs.YtiakkhahohhpaaaDoor
