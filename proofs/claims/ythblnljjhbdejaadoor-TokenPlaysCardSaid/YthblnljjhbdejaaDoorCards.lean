/-
  DERIVED. GIVEN WITH THE SEED: THE CARDS: each row of YthblnljjhbdejaaDoorRows.lean that lists a variable, with what it lists TIED to the program's text (the seventh form; the later family's looks); each row that meets fmt, with fmt's text TOLD by the authors' own Lean function (tested against real Go, not proved from fmt's source: count such statements apart). THE CARD IS WHAT COUNTS. Prove the row's statement (the work); the ties are given (YthblnljjhbdejaaDoorTie.lean); close each card by the builder's one call (the guide's Derived/Test/ToyasCard.lean, 'card_holds'). Laid BY PROGRAM, IN A SANDBOX (cutbox-door.mjs). By AI agents, Wed Nov 11 2026. No macro, syntax, notation, axiom, sorry.
-/
import Derived.Test.YthblnljjhbdejaaDoorRows
import GoSem.ClaimSeven
namespace Go.Proofs.YthblnljjhbdejaaDoor
namespace Rows

/-- THE TIED CARD OF 'latchgarthlaw5.TokenPlays'. -/
def tokenPlaysCard : Claim7 := { stood := { row := tokenPlaysRow, standIns := [], harness := (true, "85a71eac2cfc3307f5b84c60078391dd2d6405e313dd6405a36f5650ef6c0edc"), looks := true }, kinds := [], alts := [], laidByText := true, laidKinds := [.handle], laidTests := true, laidLooks := .later }
def TokenPlaysCardSaid : Prop := Claim7.holds Tryd.pinned (.plain (OpenSpec.ofChange tokenPlaysSpec)) tokenPlaysCard

/-- THE SECOND FORM's CARD OF 'latchgarthlaw5.TokenPlays'. -/
def tokenPlaysUptoCard : Claim7 := { stood := { row := tokenPlaysUptoRow, standIns := [], harness := (true, "85a71eac2cfc3307f5b84c60078391dd2d6405e313dd6405a36f5650ef6c0edc"), looks := true }, kinds := [], alts := [], laidByText := true, laidKinds := [.handle], laidTests := true, laidLooks := .later }
def TokenPlaysUptoCardSaid : Prop := Claim7.holds Tryd.pinned (.plain (OpenSpec.upto tokenPlaysSpec)) tokenPlaysUptoCard
end Rows
end Go.Proofs.YthblnljjhbdejaaDoor
