/-
  DERIVED. GIVEN WITH THE SEED: THE CARDS: each row of YtckgkgaoioigdaaDoorRows.lean that lists a variable, with what it lists TIED to the program's text (the seventh form; the later family's looks); each row that meets fmt, with fmt's text TOLD by the authors' own Lean function (tested against real Go, not proved from fmt's source: count such statements apart). THE CARD IS WHAT COUNTS. Prove the row's statement (the work); the ties are given (YtckgkgaoioigdaaDoorTie.lean); close each card by the builder's one call (the guide's Derived/Test/ToyasCard.lean, 'card_holds'). Laid BY PROGRAM, IN A SANDBOX (cutbox-door.mjs). By AI agents, Wed Nov 11 2026. No macro, syntax, notation, axiom, sorry.
-/
import Derived.Test.YtckgkgaoioigdaaDoorRows
import GoSem.ClaimSeven
namespace Go.Proofs.YtckgkgaoioigdaaDoor
namespace Rows

/-- THE TIED CARD OF 'latchgarthlaw5.EchoPlays'. -/
def echoPlaysCard : Claim7 := { stood := { row := echoPlaysRow, standIns := [], harness := (true, "5fd6a8674c79808ba7eb752708715f37cbd6cf7bdeafbf0902ba16006719536b"), looks := true }, kinds := [], alts := [], laidByText := true, laidKinds := [.handle], laidTests := true, laidLooks := .later }
def EchoPlaysCardSaid : Prop := Claim7.holds Tryd.pinned (.plain (OpenSpec.ofChange echoPlaysSpec)) echoPlaysCard

/-- THE SECOND FORM's CARD OF 'latchgarthlaw5.EchoPlays'. -/
def echoPlaysUptoCard : Claim7 := { stood := { row := echoPlaysUptoRow, standIns := [], harness := (true, "5fd6a8674c79808ba7eb752708715f37cbd6cf7bdeafbf0902ba16006719536b"), looks := true }, kinds := [], alts := [], laidByText := true, laidKinds := [.handle], laidTests := true, laidLooks := .later }
def EchoPlaysUptoCardSaid : Prop := Claim7.holds Tryd.pinned (.plain (OpenSpec.upto echoPlaysSpec)) echoPlaysUptoCard
end Rows
end Go.Proofs.YtckgkgaoioigdaaDoor
