/-
  DERIVED. GIVEN WITH THE SEED: THE CARDS: each row of YtkibhdbmamfjcaaGreatDoorRows.lean that lists a variable, with what it lists TIED to the program's text (the seventh form; the later family's looks); each row that meets fmt, with fmt's text TOLD by the authors' own Lean function (tested against real Go, not proved from fmt's source: count such statements apart). THE CARD IS WHAT COUNTS. Prove the row's statement (the work); the ties are given (YtkibhdbmamfjcaaGreatDoorTie.lean); close each card by the builder's one call (the guide's Derived/Test/ToyasCard.lean, 'card_holds'). Laid BY PROGRAM, IN A SANDBOX (cutbox-door.mjs). By AI agents, Wed Nov 11 2026. No macro, syntax, notation, axiom, sorry.
-/
import Derived.Test.YtkibhdbmamfjcaaGreatDoorRows
import GoSem.ClaimSeven
namespace Go.Proofs.YtkibhdbmamfjcaaGreatDoor
namespace Rows

/-- THE TIED CARD OF 'sluicegatelaw21.DigestCalls'. -/
def digestCallsCard : Claim7 := { stood := { row := digestCallsRow, standIns := [], harness := (true, "46db334482d72e8127573a5813f208b3ff7272a04e59ed9c5fbe7456393105f3"), looks := false }, kinds := [], alts := [], laidByText := true, laidKinds := [.data, .listed, .data, .pinned], laidTests := true, laidLooks := .later }
def DigestCallsCardSaid : Prop := Claim7.holds Tryz.pinned (.plain (OpenSpec.ofChange digestCallsSpec)) digestCallsCard

/-- THE SECOND FORM's CARD OF 'sluicegatelaw21.DigestCalls'. -/
def digestCallsUptoCard : Claim7 := { stood := { row := digestCallsUptoRow, standIns := [], harness := (true, "46db334482d72e8127573a5813f208b3ff7272a04e59ed9c5fbe7456393105f3"), looks := false }, kinds := [], alts := [], laidByText := true, laidKinds := [.data, .listed, .data, .pinned], laidTests := true, laidLooks := .later }
def DigestCallsUptoCardSaid : Prop := Claim7.holds Tryz.pinned (.plain (OpenSpec.upto digestCallsSpec)) digestCallsUptoCard
end Rows
end Go.Proofs.YtkibhdbmamfjcaaGreatDoor
