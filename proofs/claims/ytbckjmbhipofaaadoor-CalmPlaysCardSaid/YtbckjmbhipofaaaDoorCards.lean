/-
  DERIVED. GIVEN WITH THE SEED: THE CARDS: each row of YtbckjmbhipofaaaDoorRows.lean that lists a variable, with what it lists TIED to the program's text (the seventh form; the later family's looks); each row that meets fmt, with fmt's text TOLD by the authors' own Lean function (tested against real Go, not proved from fmt's source: count such statements apart). THE CARD IS WHAT COUNTS. Prove the row's statement (the work); the ties are given (YtbckjmbhipofaaaDoorTie.lean); close each card by the builder's one call (the guide's Derived/Test/ToyasCard.lean, 'card_holds'). Laid BY PROGRAM, IN A SANDBOX (cutbox-door.mjs). By AI agents, Wed Nov 11 2026. No macro, syntax, notation, axiom, sorry.
-/
import Derived.Test.YtbckjmbhipofaaaDoorRows
import GoSem.ClaimSeven
namespace Go.Proofs.YtbckjmbhipofaaaDoor
namespace Rows

/-- THE TIED CARD OF 'latchgarthlaw5.CalmPlays'. -/
def calmPlaysCard : Claim7 := { stood := { row := calmPlaysRow, standIns := [], harness := (true, "2b0a0fdd5da41af2bf8383b85ae146408bb704732ae1111475b851fc5d9ba01b"), looks := true }, kinds := [], alts := [], laidByText := true, laidKinds := [.handle], laidTests := true, laidLooks := .later }
def CalmPlaysCardSaid : Prop := Claim7.holds Tryd.pinned (.plain (OpenSpec.ofChange calmPlaysSpec)) calmPlaysCard

/-- THE SECOND FORM's CARD OF 'latchgarthlaw5.CalmPlays'. -/
def calmPlaysUptoCard : Claim7 := { stood := { row := calmPlaysUptoRow, standIns := [], harness := (true, "2b0a0fdd5da41af2bf8383b85ae146408bb704732ae1111475b851fc5d9ba01b"), looks := true }, kinds := [], alts := [], laidByText := true, laidKinds := [.handle], laidTests := true, laidLooks := .later }
def CalmPlaysUptoCardSaid : Prop := Claim7.holds Tryd.pinned (.plain (OpenSpec.upto calmPlaysSpec)) calmPlaysUptoCard
end Rows
end Go.Proofs.YtbckjmbhipofaaaDoor
