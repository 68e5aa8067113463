/-
  DERIVED. GIVEN WITH THE SEED: THE CARDS: each row of YtfgnpegkcmkeaaaDoorRows.lean that lists a variable, with what it lists TIED to the program's text (the seventh form; the later family's looks); each row that meets fmt, with fmt's text TOLD by the authors' own Lean function (tested against real Go, not proved from fmt's source: count such statements apart). THE CARD IS WHAT COUNTS. Prove the row's statement (the work); the ties are given (YtfgnpegkcmkeaaaDoorTie.lean); close each card by the builder's one call (the guide's Derived/Test/ToyasCard.lean, 'card_holds'). Laid BY PROGRAM, IN A SANDBOX (cutbox-door.mjs). By AI agents, Wed Nov 11 2026. No macro, syntax, notation, axiom, sorry.
-/
import Derived.Test.YtfgnpegkcmkeaaaDoorRows
import GoSem.ClaimSeven
namespace Go.Proofs.YtfgnpegkcmkeaaaDoor
namespace Rows

/-- THE TIED CARD OF 'sluicegatelaw30.AdminBack'. -/
def adminBackCard : Claim7 := { stood := { row := adminBackRow, standIns := [], harness := (true, "84099249f278951de1d3cddcc180e8c4a6edd54bccc1c5948ff7b2f77035c271"), looks := true }, kinds := [], alts := [], laidByText := true, laidKinds := [.data, .data, .data, .data, .sentinel, .sentinel, .listed, .data, .pinned], laidTests := true, laidLooks := .later }
def AdminBackCardSaid : Prop := Claim7.holds Tryd.pinned (.plain (OpenSpec.ofChange adminBackSpec)) adminBackCard

/-- THE SECOND FORM's CARD OF 'sluicegatelaw30.AdminBack'. -/
def adminBackUptoCard : Claim7 := { stood := { row := adminBackUptoRow, standIns := [], harness := (true, "84099249f278951de1d3cddcc180e8c4a6edd54bccc1c5948ff7b2f77035c271"), looks := true }, kinds := [], alts := [], laidByText := true, laidKinds := [.data, .data, .data, .data, .sentinel, .sentinel, .listed, .data, .pinned], laidTests := true, laidLooks := .later }
def AdminBackUptoCardSaid : Prop := Claim7.holds Tryd.pinned (.plain (OpenSpec.upto adminBackSpec)) adminBackUptoCard
end Rows
end Go.Proofs.YtfgnpegkcmkeaaaDoor
