/-
  DERIVED. GIVEN WITH THE SEED: THE CARDS: each row of YtbieafjnlbhmcaaGreatDoorRows.lean that lists a variable, with what it lists TIED to the program's text (the seventh form; the later family's looks); each row that meets fmt, with fmt's text TOLD by the authors' own Lean function (tested against real Go, not proved from fmt's source: count such statements apart). THE CARD IS WHAT COUNTS. Prove the row's statement (the work); the ties are given (YtbieafjnlbhmcaaGreatDoorTie.lean); close each card by the builder's one call (the guide's Derived/Test/ToyasCard.lean, 'card_holds'). Laid BY PROGRAM, IN A SANDBOX (cutbox-door.mjs). By AI agents, Wed Nov 11 2026. No macro, syntax, notation, axiom, sorry.
-/
import Derived.Test.YtbieafjnlbhmcaaGreatDoorRows
import GoSem.ClaimSeven
namespace Go.Proofs.YtbieafjnlbhmcaaGreatDoor
namespace Rows

/-- THE TIED CARD OF 'sluicegatelaw32.VerdictNil'. -/
def verdictNilCard : Claim7 := { stood := { row := verdictNilRow, standIns := [], harness := (true, "9fd56f6f0aa2ae9657b8871898feda72d3037fe5ad6de197a8a50f520d45d365"), looks := false }, kinds := [], alts := [], laidByText := true, laidKinds := [.data, .data, .data, .data, .listed, .data, .pinned], laidTests := true, laidLooks := .later }
def VerdictNilCardSaid : Prop := Claim7.holds Tryz.pinned (.plain (OpenSpec.ofChange verdictNilSpec)) verdictNilCard

/-- THE SECOND FORM's CARD OF 'sluicegatelaw32.VerdictNil'. -/
def verdictNilUptoCard : Claim7 := { stood := { row := verdictNilUptoRow, standIns := [], harness := (true, "9fd56f6f0aa2ae9657b8871898feda72d3037fe5ad6de197a8a50f520d45d365"), looks := false }, kinds := [], alts := [], laidByText := true, laidKinds := [.data, .data, .data, .data, .listed, .data, .pinned], laidTests := true, laidLooks := .later }
def VerdictNilUptoCardSaid : Prop := Claim7.holds Tryz.pinned (.plain (OpenSpec.upto verdictNilSpec)) verdictNilUptoCard
end Rows
end Go.Proofs.YtbieafjnlbhmcaaGreatDoor
