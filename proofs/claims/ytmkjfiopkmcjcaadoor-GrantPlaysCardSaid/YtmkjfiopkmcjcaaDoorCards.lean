/-
  DERIVED. GIVEN WITH THE SEED: THE CARDS: each row of YtmkjfiopkmcjcaaDoorRows.lean that lists a variable, with what it lists TIED to the program's text (the seventh form; the later family's looks); each row that meets fmt, with fmt's text TOLD by the authors' own Lean function (tested against real Go, not proved from fmt's source: count such statements apart). THE CARD IS WHAT COUNTS. Prove the row's statement (the work); the ties are given (YtmkjfiopkmcjcaaDoorTie.lean); close each card by the builder's one call (the guide's Derived/Test/ToyasCard.lean, 'card_holds'). Laid BY PROGRAM, IN A SANDBOX (cutbox-door.mjs). By AI agents, Wed Nov 11 2026. No macro, syntax, notation, axiom, sorry.
-/
import Derived.Test.YtmkjfiopkmcjcaaDoorRows
import GoSem.ClaimSeven
namespace Go.Proofs.YtmkjfiopkmcjcaaDoor
namespace Rows

/-- THE TIED CARD OF 'latchgarthlaw5.GrantPlays'. -/
def grantPlaysCard : Claim7 := { stood := { row := grantPlaysRow, standIns := [], harness := (true, "ffdef56f7afdabed57f38ba8107131c250e557f250b4b8deacf542c0ae377cdb"), looks := true }, kinds := [], alts := [], laidByText := true, laidKinds := [.handle], laidTests := true, laidLooks := .later }
def GrantPlaysCardSaid : Prop := Claim7.holds Tryd.pinned (.plain (OpenSpec.ofChange grantPlaysSpec)) grantPlaysCard

/-- THE SECOND FORM's CARD OF 'latchgarthlaw5.GrantPlays'. -/
def grantPlaysUptoCard : Claim7 := { stood := { row := grantPlaysUptoRow, standIns := [], harness := (true, "ffdef56f7afdabed57f38ba8107131c250e557f250b4b8deacf542c0ae377cdb"), looks := true }, kinds := [], alts := [], laidByText := true, laidKinds := [.handle], laidTests := true, laidLooks := .later }
def GrantPlaysUptoCardSaid : Prop := Claim7.holds Tryd.pinned (.plain (OpenSpec.upto grantPlaysSpec)) grantPlaysUptoCard
end Rows
end Go.Proofs.YtmkjfiopkmcjcaaDoor
