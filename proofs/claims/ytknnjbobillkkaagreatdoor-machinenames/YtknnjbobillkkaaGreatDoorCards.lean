/-
  DERIVED. GIVEN WITH THE SEED: THE CARDS: each row of YtknnjbobillkkaaGreatDoorRows.lean that lists a variable, with what it lists TIED to the program's text (the seventh form; the later family's looks); each row that meets fmt, with fmt's text TOLD by the authors' own Lean function (tested against real Go, not proved from fmt's source: count such statements apart). THE CARD IS WHAT COUNTS. Prove the row's statement (the work); the ties are given (YtknnjbobillkkaaGreatDoorTie.lean); close each card by the builder's one call (the guide's Derived/Test/ToyasCard.lean, 'card_holds'). Laid BY PROGRAM, IN A SANDBOX (cutbox-door.mjs). By AI agents, Wed Nov 11 2026. No macro, syntax, notation, axiom, sorry.
-/
import Derived.Test.YtknnjbobillkkaaGreatDoorRows
import GoSem.ClaimSeven
namespace Go.Proofs.YtknnjbobillkkaaGreatDoor
namespace Rows

/-- THE TIED CARD OF 'sluicegatelaw24.MachineNames'. -/
def machineNamesCard : Claim7 := { stood := { row := machineNamesRow, standIns := [], harness := (true, "dac41de036e9f65f6132b73e3aed7eb325ced8a81a1ae91d191b5a21c7c92f39"), looks := false }, kinds := [], alts := [], laidByText := true, laidKinds := [.data, .data, .data, .data, .listed, .data, .pinned], laidTests := true, laidLooks := .later }
def MachineNamesCardSaid : Prop := Claim7.holds Tryz.pinned (.plain (OpenSpec.ofChange machineNamesSpec)) machineNamesCard

/-- THE TIED CARD OF 'sluicegatelaw24.MachineNil'. -/
def machineNilCard : Claim7 := { stood := { row := machineNilRow, standIns := [], harness := (true, "dac41de036e9f65f6132b73e3aed7eb325ced8a81a1ae91d191b5a21c7c92f39"), looks := false }, kinds := [], alts := [], laidByText := true, laidKinds := [.data, .data, .data, .data, .listed, .data, .pinned], laidTests := true, laidLooks := .later }
def MachineNilCardSaid : Prop := Claim7.holds Tryz.pinned (.plain (OpenSpec.ofChange machineNilSpec)) machineNilCard

/-- THE TIED CARD OF 'sluicegatelaw24.MachinePure'. -/
def machinePureCard : Claim7 := { stood := { row := machinePureRow, standIns := [], harness := (true, "dac41de036e9f65f6132b73e3aed7eb325ced8a81a1ae91d191b5a21c7c92f39"), looks := false }, kinds := [], alts := [], laidByText := true, laidKinds := [.data, .data, .data, .data, .listed, .data, .pinned], laidTests := true, laidLooks := .later }
def MachinePureCardSaid : Prop := Claim7.holds Tryz.pinned (.plain (OpenSpec.ofChange machinePureSpec)) machinePureCard

/-- THE SECOND FORM's CARD OF 'sluicegatelaw24.MachineNames'. -/
def machineNamesUptoCard : Claim7 := { stood := { row := machineNamesUptoRow, standIns := [], harness := (true, "dac41de036e9f65f6132b73e3aed7eb325ced8a81a1ae91d191b5a21c7c92f39"), looks := false }, kinds := [], alts := [], laidByText := true, laidKinds := [.data, .data, .data, .data, .listed, .data, .pinned], laidTests := true, laidLooks := .later }
def MachineNamesUptoCardSaid : Prop := Claim7.holds Tryz.pinned (.plain (OpenSpec.upto machineNamesSpec)) machineNamesUptoCard

/-- THE SECOND FORM's CARD OF 'sluicegatelaw24.MachineNil'. -/
def machineNilUptoCard : Claim7 := { stood := { row := machineNilUptoRow, standIns := [], harness := (true, "dac41de036e9f65f6132b73e3aed7eb325ced8a81a1ae91d191b5a21c7c92f39"), looks := false }, kinds := [], alts := [], laidByText := true, laidKinds := [.data, .data, .data, .data, .listed, .data, .pinned], laidTests := true, laidLooks := .later }
def MachineNilUptoCardSaid : Prop := Claim7.holds Tryz.pinned (.plain (OpenSpec.upto machineNilSpec)) machineNilUptoCard

/-- THE SECOND FORM's CARD OF 'sluicegatelaw24.MachinePure'. -/
def machinePureUptoCard : Claim7 := { stood := { row := machinePureUptoRow, standIns := [], harness := (true, "dac41de036e9f65f6132b73e3aed7eb325ced8a81a1ae91d191b5a21c7c92f39"), looks := false }, kinds := [], alts := [], laidByText := true, laidKinds := [.data, .data, .data, .data, .listed, .data, .pinned], laidTests := true, laidLooks := .later }
def MachinePureUptoCardSaid : Prop := Claim7.holds Tryz.pinned (.plain (OpenSpec.upto machinePureSpec)) machinePureUptoCard
end Rows
end Go.Proofs.YtknnjbobillkkaaGreatDoor
