/-
  DERIVED. GIVEN WITH THE SEED: THE CARDS: each row of YtgpjjbfmckcjgaaDoorRows.lean that lists a variable, with what it lists TIED to the program's text (the seventh form; the later family's looks); each row that meets fmt, with fmt's text TOLD by the authors' own Lean function (tested against real Go, not proved from fmt's source: count such statements apart). THE CARD IS WHAT COUNTS. Prove the row's statement (the work); the ties are given (YtgpjjbfmckcjgaaDoorTie.lean); close each card by the builder's one call (the guide's Derived/Test/ToyasCard.lean, 'card_holds'). Laid BY PROGRAM, IN A SANDBOX (cutbox-door.mjs). By AI agents, Wed Nov 11 2026. No macro, syntax, notation, axiom, sorry.
-/
import Derived.Test.YtgpjjbfmckcjgaaDoorRows
import GoSem.ClaimSeven
namespace Go.Proofs.YtgpjjbfmckcjgaaDoor
namespace Rows

/-- THE TIED CARD OF 'latchgarthlaw5.ElectPlays'. -/
def electPlaysCard : Claim7 := { stood := { row := electPlaysRow, standIns := [], harness := (true, "11221b6a755495665724f0d785aa57ea29700cf7760853fdfc8e894caceaa741"), looks := true }, kinds := [], alts := [], laidByText := true, laidKinds := [.handle], laidTests := true, laidLooks := .later }
def ElectPlaysCardSaid : Prop := Claim7.holds Tryd.pinned (.plain (OpenSpec.ofChange electPlaysSpec)) electPlaysCard

/-- THE TIED CARD OF 'latchgarthlaw5.BitPlays'. -/
def bitPlaysCard : Claim7 := { stood := { row := bitPlaysRow, standIns := [], harness := (true, "11221b6a755495665724f0d785aa57ea29700cf7760853fdfc8e894caceaa741"), looks := true }, kinds := [], alts := [], laidByText := true, laidKinds := [.handle], laidTests := true, laidLooks := .later }
def BitPlaysCardSaid : Prop := Claim7.holds Tryd.pinned (.plain (OpenSpec.ofChange bitPlaysSpec)) bitPlaysCard

/-- THE SECOND FORM's CARD OF 'latchgarthlaw5.ElectPlays'. -/
def electPlaysUptoCard : Claim7 := { stood := { row := electPlaysUptoRow, standIns := [], harness := (true, "11221b6a755495665724f0d785aa57ea29700cf7760853fdfc8e894caceaa741"), looks := true }, kinds := [], alts := [], laidByText := true, laidKinds := [.handle], laidTests := true, laidLooks := .later }
def ElectPlaysUptoCardSaid : Prop := Claim7.holds Tryd.pinned (.plain (OpenSpec.upto electPlaysSpec)) electPlaysUptoCard

/-- THE SECOND FORM's CARD OF 'latchgarthlaw5.BitPlays'. -/
def bitPlaysUptoCard : Claim7 := { stood := { row := bitPlaysUptoRow, standIns := [], harness := (true, "11221b6a755495665724f0d785aa57ea29700cf7760853fdfc8e894caceaa741"), looks := true }, kinds := [], alts := [], laidByText := true, laidKinds := [.handle], laidTests := true, laidLooks := .later }
def BitPlaysUptoCardSaid : Prop := Claim7.holds Tryd.pinned (.plain (OpenSpec.upto bitPlaysSpec)) bitPlaysUptoCard
end Rows
end Go.Proofs.YtgpjjbfmckcjgaaDoor
