/-
  DERIVED. GIVEN WITH THE SEED: THE CARDS: each row of YtfgnpegkcmkeaaaGreatDoorRows.lean that lists a variable, with what it lists TIED to the program's text (the seventh form; the later family's looks); each row that meets fmt, with fmt's text TOLD by the authors' own Lean function (tested against real Go, not proved from fmt's source: count such statements apart). THE CARD IS WHAT COUNTS. Prove the row's statement (the work); the ties are given (YtfgnpegkcmkeaaaGreatDoorTie.lean); close each card by the builder's one call (the guide's Derived/Test/ToyasCard.lean, 'card_holds'). Laid BY PROGRAM, IN A SANDBOX (cutbox-door.mjs). By AI agents, Wed Nov 11 2026. No macro, syntax, notation, axiom, sorry.
-/
import Derived.Test.YtfgnpegkcmkeaaaGreatDoorRows
import GoSem.ClaimSeven
namespace Go.Proofs.YtfgnpegkcmkeaaaGreatDoor
namespace Rows

/-- THE TIED CARD OF 'sluicegatelaw30.AdminNames'. -/
def adminNamesCard : Claim7 := { stood := { row := adminNamesRow, standIns := [], harness := (true, "b56cba6fd8f2cbf9df1d8f69ba40f7a111eee67757905199dee3ca9b8f6259ea"), looks := true }, kinds := [], alts := [], laidByText := true, laidKinds := [.data, .data, .data, .data, .sentinel, .sentinel, .listed, .data, .pinned], laidTests := true, laidLooks := .later }
def AdminNamesCardSaid : Prop := Claim7.holds Tryz.pinned (.plain (OpenSpec.ofChange adminNamesSpec)) adminNamesCard

/-- THE TIED CARD OF 'sluicegatelaw30.AdminWhole'. -/
def adminWholeCard : Claim7 := { stood := { row := adminWholeRow, standIns := [], harness := (true, "b56cba6fd8f2cbf9df1d8f69ba40f7a111eee67757905199dee3ca9b8f6259ea"), looks := true }, kinds := [], alts := [], laidByText := true, laidKinds := [.data, .data, .data, .data, .sentinel, .sentinel, .listed, .data, .pinned], laidTests := true, laidLooks := .later }
def AdminWholeCardSaid : Prop := Claim7.holds Tryz.pinned (.plain (OpenSpec.ofChange adminWholeSpec)) adminWholeCard

/-- THE SECOND FORM's CARD OF 'sluicegatelaw30.AdminNames'. -/
def adminNamesUptoCard : Claim7 := { stood := { row := adminNamesUptoRow, standIns := [], harness := (true, "b56cba6fd8f2cbf9df1d8f69ba40f7a111eee67757905199dee3ca9b8f6259ea"), looks := true }, kinds := [], alts := [], laidByText := true, laidKinds := [.data, .data, .data, .data, .sentinel, .sentinel, .listed, .data, .pinned], laidTests := true, laidLooks := .later }
def AdminNamesUptoCardSaid : Prop := Claim7.holds Tryz.pinned (.plain (OpenSpec.upto adminNamesSpec)) adminNamesUptoCard

/-- THE SECOND FORM's CARD OF 'sluicegatelaw30.AdminWhole'. -/
def adminWholeUptoCard : Claim7 := { stood := { row := adminWholeUptoRow, standIns := [], harness := (true, "b56cba6fd8f2cbf9df1d8f69ba40f7a111eee67757905199dee3ca9b8f6259ea"), looks := true }, kinds := [], alts := [], laidByText := true, laidKinds := [.data, .data, .data, .data, .sentinel, .sentinel, .listed, .data, .pinned], laidTests := true, laidLooks := .later }
def AdminWholeUptoCardSaid : Prop := Claim7.holds Tryz.pinned (.plain (OpenSpec.upto adminWholeSpec)) adminWholeUptoCard
end Rows
end Go.Proofs.YtfgnpegkcmkeaaaGreatDoor
