/-
  DERIVED. GIVEN WITH THE SEED: THE CARDS: each row of YtfdfjifbhahekaaGreatDoorRows.lean that lists a variable, with what it lists TIED to the program's text (the seventh form; the later family's looks); each row that meets fmt, with fmt's text TOLD by the authors' own Lean function (tested against real Go, not proved from fmt's source: count such statements apart). THE CARD IS WHAT COUNTS. Prove the row's statement (the work); the ties are given (YtfdfjifbhahekaaGreatDoorTie.lean); close each card by the builder's one call (the guide's Derived/Test/ToyasCard.lean, 'card_holds'). Laid BY PROGRAM, IN A SANDBOX (cutbox-door.mjs). By AI agents, Wed Nov 11 2026. No macro, syntax, notation, axiom, sorry.
-/
import Derived.Test.YtfdfjifbhahekaaGreatDoorRows
import GoSem.ClaimSeven
namespace Go.Proofs.YtfdfjifbhahekaaGreatDoor
namespace Rows

/-- THE TIED CARD OF 'sluicegatelaw24.MachinePure'. -/
def machinePureCard : Claim7 := { stood := { row := machinePureRow, standIns := [], harness := (true, "1c863af1fc2df4dbec772b409d80566d8392dd9e1eee66566f53c907b30ec99a"), looks := false }, kinds := [], alts := [], laidByText := true, laidKinds := [.data, .data, .data, .data, .listed, .data, .pinned], laidTests := true, laidLooks := .later }
def MachinePureCardSaid : Prop := Claim7.holds Tryz.pinned (.plain (OpenSpec.ofChange machinePureSpec)) machinePureCard

/-- THE SECOND FORM's CARD OF 'sluicegatelaw24.MachinePure'. -/
def machinePureUptoCard : Claim7 := { stood := { row := machinePureUptoRow, standIns := [], harness := (true, "1c863af1fc2df4dbec772b409d80566d8392dd9e1eee66566f53c907b30ec99a"), looks := false }, kinds := [], alts := [], laidByText := true, laidKinds := [.data, .data, .data, .data, .listed, .data, .pinned], laidTests := true, laidLooks := .later }
def MachinePureUptoCardSaid : Prop := Claim7.holds Tryz.pinned (.plain (OpenSpec.upto machinePureSpec)) machinePureUptoCard
end Rows
end Go.Proofs.YtfdfjifbhahekaaGreatDoor
