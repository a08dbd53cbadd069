/-
  DERIVED. GIVEN WITH THE SEED: THE CARDS: each row of YtiakkhahohhpaaaDoorRows.lean that lists a variable, with what it lists TIED to the program's text (the seventh form; the later family's looks); each row that meets fmt, with fmt's text TOLD by the authors' own Lean function (tested against real Go, not proved from fmt's source: count such statements apart). THE CARD IS WHAT COUNTS. Prove the row's statement (the work); the ties are given (YtiakkhahohhpaaaDoorTie.lean); close each card by the builder's one call (the guide's Derived/Test/ToyasCard.lean, 'card_holds'). Laid BY PROGRAM, IN A SANDBOX (cutbox-door.mjs). By AI agents, Wed Nov 11 2026. No macro, syntax, notation, axiom, sorry.
-/
import Derived.Test.YtiakkhahohhpaaaDoorRows
import GoSem.ClaimSeven
namespace Go.Proofs.YtiakkhahohhpaaaDoor
namespace Rows

/-- THE TIED CARD OF 'latchgarthlaw5.CastOrder'. -/
def castOrderCard : Claim7 := { stood := { row := castOrderRow, standIns := [], harness := (true, "a22df2f5087bb22026deb44ae38043e4a5836053168d75feb2de3d97ade7266c"), looks := true }, kinds := [], alts := [], laidByText := true, laidKinds := [.handle], laidTests := true, laidLooks := .later }
def CastOrderCardSaid : Prop := Claim7.holds Tryd.pinned (.plain (OpenSpec.ofChange castOrderSpec)) castOrderCard

/-- THE TIED CARD OF 'latchgarthlaw5.CastGoes'. -/
def castGoesCard : Claim7 := { stood := { row := castGoesRow, standIns := [], harness := (true, "a22df2f5087bb22026deb44ae38043e4a5836053168d75feb2de3d97ade7266c"), looks := true }, kinds := [], alts := [], laidByText := true, laidKinds := [.handle], laidTests := true, laidLooks := .later }
def CastGoesCardSaid : Prop := Claim7.holds Tryd.pinned (.plain (OpenSpec.ofChange castGoesSpec)) castGoesCard

/-- THE TIED CARD OF 'latchgarthlaw5.CastFifo'. -/
def castFifoCard : Claim7 := { stood := { row := castFifoRow, standIns := [], harness := (true, "a22df2f5087bb22026deb44ae38043e4a5836053168d75feb2de3d97ade7266c"), looks := true }, kinds := [], alts := [], laidByText := true, laidKinds := [.handle], laidTests := true, laidLooks := .later }
def CastFifoCardSaid : Prop := Claim7.holds Tryd.pinned (.plain (OpenSpec.ofChange castFifoSpec)) castFifoCard

/-- THE TIED CARD OF 'latchgarthlaw5.CastPlays'. -/
def castPlaysCard : Claim7 := { stood := { row := castPlaysRow, standIns := [], harness := (true, "a22df2f5087bb22026deb44ae38043e4a5836053168d75feb2de3d97ade7266c"), looks := true }, kinds := [], alts := [], laidByText := true, laidKinds := [.handle], laidTests := true, laidLooks := .later }
def CastPlaysCardSaid : Prop := Claim7.holds Tryd.pinned (.plain (OpenSpec.ofChange castPlaysSpec)) castPlaysCard

/-- THE SECOND FORM's CARD OF 'latchgarthlaw5.CastOrder'. -/
def castOrderUptoCard : Claim7 := { stood := { row := castOrderUptoRow, standIns := [], harness := (true, "a22df2f5087bb22026deb44ae38043e4a5836053168d75feb2de3d97ade7266c"), looks := true }, kinds := [], alts := [], laidByText := true, laidKinds := [.handle], laidTests := true, laidLooks := .later }
def CastOrderUptoCardSaid : Prop := Claim7.holds Tryd.pinned (.plain (OpenSpec.upto castOrderSpec)) castOrderUptoCard

/-- THE SECOND FORM's CARD OF 'latchgarthlaw5.CastGoes'. -/
def castGoesUptoCard : Claim7 := { stood := { row := castGoesUptoRow, standIns := [], harness := (true, "a22df2f5087bb22026deb44ae38043e4a5836053168d75feb2de3d97ade7266c"), looks := true }, kinds := [], alts := [], laidByText := true, laidKinds := [.handle], laidTests := true, laidLooks := .later }
def CastGoesUptoCardSaid : Prop := Claim7.holds Tryd.pinned (.plain (OpenSpec.upto castGoesSpec)) castGoesUptoCard

/-- THE SECOND FORM's CARD OF 'latchgarthlaw5.CastFifo'. -/
def castFifoUptoCard : Claim7 := { stood := { row := castFifoUptoRow, standIns := [], harness := (true, "a22df2f5087bb22026deb44ae38043e4a5836053168d75feb2de3d97ade7266c"), looks := true }, kinds := [], alts := [], laidByText := true, laidKinds := [.handle], laidTests := true, laidLooks := .later }
def CastFifoUptoCardSaid : Prop := Claim7.holds Tryd.pinned (.plain (OpenSpec.upto castFifoSpec)) castFifoUptoCard

/-- THE SECOND FORM's CARD OF 'latchgarthlaw5.CastPlays'. -/
def castPlaysUptoCard : Claim7 := { stood := { row := castPlaysUptoRow, standIns := [], harness := (true, "a22df2f5087bb22026deb44ae38043e4a5836053168d75feb2de3d97ade7266c"), looks := true }, kinds := [], alts := [], laidByText := true, laidKinds := [.handle], laidTests := true, laidLooks := .later }
def CastPlaysUptoCardSaid : Prop := Claim7.holds Tryd.pinned (.plain (OpenSpec.upto castPlaysSpec)) castPlaysUptoCard
end Rows
end Go.Proofs.YtiakkhahohhpaaaDoor
