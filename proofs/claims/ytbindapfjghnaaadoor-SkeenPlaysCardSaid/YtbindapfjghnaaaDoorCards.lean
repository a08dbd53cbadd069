/-
  DERIVED. GIVEN WITH THE SEED: THE CARDS: each row of YtbindapfjghnaaaDoorRows.lean that lists a variable, with what it lists TIED to the program's text (the seventh form; the later family's looks); each row that meets fmt, with fmt's text TOLD by the authors' own Lean function (tested against real Go, not proved from fmt's source: count such statements apart). THE CARD IS WHAT COUNTS. Prove the row's statement (the work); the ties are given (YtbindapfjghnaaaDoorTie.lean); close each card by the builder's one call (the guide's Derived/Test/ToyasCard.lean, 'card_holds'). Laid BY PROGRAM, IN A SANDBOX (cutbox-door.mjs). By AI agents, Wed Nov 11 2026. No macro, syntax, notation, axiom, sorry.
-/
import Derived.Test.YtbindapfjghnaaaDoorRows
import GoSem.ClaimSeven
namespace Go.Proofs.YtbindapfjghnaaaDoor
namespace Rows

/-- THE TIED CARD OF 'latchgarthlaw5.SkeenPlays'. -/
def skeenPlaysCard : Claim7 := { stood := { row := skeenPlaysRow, standIns := [], harness := (true, "82c54aed5f0129db0102424a0d09da52212b1904222e751b5428e8147ea86e6e"), looks := true }, kinds := [], alts := [], laidByText := true, laidKinds := [.handle], laidTests := true, laidLooks := .later }
def SkeenPlaysCardSaid : Prop := Claim7.holds Tryd.pinned (.plain (OpenSpec.ofChange skeenPlaysSpec)) skeenPlaysCard

/-- THE SECOND FORM's CARD OF 'latchgarthlaw5.SkeenPlays'. -/
def skeenPlaysUptoCard : Claim7 := { stood := { row := skeenPlaysUptoRow, standIns := [], harness := (true, "82c54aed5f0129db0102424a0d09da52212b1904222e751b5428e8147ea86e6e"), looks := true }, kinds := [], alts := [], laidByText := true, laidKinds := [.handle], laidTests := true, laidLooks := .later }
def SkeenPlaysUptoCardSaid : Prop := Claim7.holds Tryd.pinned (.plain (OpenSpec.upto skeenPlaysSpec)) skeenPlaysUptoCard
end Rows
end Go.Proofs.YtbindapfjghnaaaDoor
