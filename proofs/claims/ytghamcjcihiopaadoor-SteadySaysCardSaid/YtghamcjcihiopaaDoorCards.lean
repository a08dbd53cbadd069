/-
  DERIVED. GIVEN WITH THE SEED: THE CARDS: each row of YtghamcjcihiopaaDoorRows.lean that lists a variable, with what it lists TIED to the program's text (the seventh form; the later family's looks); each row that meets fmt, with fmt's text TOLD by the authors' own Lean function (tested against real Go, not proved from fmt's source: count such statements apart). THE CARD IS WHAT COUNTS. Prove the row's statement (the work); the ties are given (YtghamcjcihiopaaDoorTie.lean); close each card by the builder's one call (the guide's Derived/Test/ToyasCard.lean, 'card_holds'). Laid BY PROGRAM, IN A SANDBOX (cutbox-door.mjs). By AI agents, Wed Nov 11 2026. No macro, syntax, notation, axiom, sorry.
-/
import Derived.Test.YtghamcjcihiopaaDoorRows
import GoSem.ClaimSeven
namespace Go.Proofs.YtghamcjcihiopaaDoor
namespace Rows

/-- THE TIED CARD OF 'latchgarthlaw5.SteadySays'. -/
def steadySaysCard : Claim7 := { stood := { row := steadySaysRow, standIns := [], harness := (true, "ce734798c29fef8454ac00c823530b594e9142fd658c5034b708ced3b021e0d5"), looks := true }, kinds := [], alts := [], laidByText := true, laidKinds := [.handle], laidTests := true, laidLooks := .later }
def SteadySaysCardSaid : Prop := Claim7.holds Tryd.pinned (.plain (OpenSpec.ofChange steadySaysSpec)) steadySaysCard

/-- THE TIED CARD OF 'latchgarthlaw5.SteadyOne'. -/
def steadyOneCard : Claim7 := { stood := { row := steadyOneRow, standIns := [], harness := (true, "ce734798c29fef8454ac00c823530b594e9142fd658c5034b708ced3b021e0d5"), looks := true }, kinds := [], alts := [], laidByText := true, laidKinds := [.handle], laidTests := true, laidLooks := .later }
def SteadyOneCardSaid : Prop := Claim7.holds Tryd.pinned (.plain (OpenSpec.ofChange steadyOneSpec)) steadyOneCard

/-- THE SECOND FORM's CARD OF 'latchgarthlaw5.SteadySays'. -/
def steadySaysUptoCard : Claim7 := { stood := { row := steadySaysUptoRow, standIns := [], harness := (true, "ce734798c29fef8454ac00c823530b594e9142fd658c5034b708ced3b021e0d5"), looks := true }, kinds := [], alts := [], laidByText := true, laidKinds := [.handle], laidTests := true, laidLooks := .later }
def SteadySaysUptoCardSaid : Prop := Claim7.holds Tryd.pinned (.plain (OpenSpec.upto steadySaysSpec)) steadySaysUptoCard

/-- THE SECOND FORM's CARD OF 'latchgarthlaw5.SteadyOne'. -/
def steadyOneUptoCard : Claim7 := { stood := { row := steadyOneUptoRow, standIns := [], harness := (true, "ce734798c29fef8454ac00c823530b594e9142fd658c5034b708ced3b021e0d5"), looks := true }, kinds := [], alts := [], laidByText := true, laidKinds := [.handle], laidTests := true, laidLooks := .later }
def SteadyOneUptoCardSaid : Prop := Claim7.holds Tryd.pinned (.plain (OpenSpec.upto steadyOneSpec)) steadyOneUptoCard
end Rows
end Go.Proofs.YtghamcjcihiopaaDoor
