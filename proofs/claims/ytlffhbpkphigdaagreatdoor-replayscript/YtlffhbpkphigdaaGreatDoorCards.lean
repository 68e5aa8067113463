/-
  DERIVED. GIVEN WITH THE SEED: THE CARDS: each row of YtlffhbpkphigdaaGreatDoorRows.lean that lists a variable, with what it lists TIED to the program's text (the seventh form; the later family's looks); each row that meets fmt, with fmt's text TOLD by the authors' own Lean function (tested against real Go, not proved from fmt's source: count such statements apart). THE CARD IS WHAT COUNTS. Prove the row's statement (the work); the ties are given (YtlffhbpkphigdaaGreatDoorTie.lean); close each card by the builder's one call (the guide's Derived/Test/ToyasCard.lean, 'card_holds'). Laid BY PROGRAM, IN A SANDBOX (cutbox-door.mjs). By AI agents, Wed Nov 11 2026. No macro, syntax, notation, axiom, sorry.
-/
import Derived.Test.YtlffhbpkphigdaaGreatDoorRows
import GoSem.ClaimSeven
namespace Go.Proofs.YtlffhbpkphigdaaGreatDoor
namespace Rows

/-- THE TIED CARD OF 'sluicegatelaw26.ReplayScript'. -/
def replayScriptCard : Claim7 := { stood := { row := replayScriptRow, standIns := [], harness := (true, "a782642c4173437bb8a5736890601bc2879039d8cce65b2a2d75344782d34cb6"), looks := false }, kinds := [], alts := [], laidByText := true, laidKinds := [.data, .pinned], laidTests := true, laidLooks := .later }
def ReplayScriptCardSaid : Prop := Claim7.holds Tryz.pinned (.plain (OpenSpec.ofChange replayScriptSpec)) replayScriptCard

/-- THE SECOND FORM's CARD OF 'sluicegatelaw26.ReplayScript'. -/
def replayScriptUptoCard : Claim7 := { stood := { row := replayScriptUptoRow, standIns := [], harness := (true, "a782642c4173437bb8a5736890601bc2879039d8cce65b2a2d75344782d34cb6"), looks := false }, kinds := [], alts := [], laidByText := true, laidKinds := [.data, .pinned], laidTests := true, laidLooks := .later }
def ReplayScriptUptoCardSaid : Prop := Claim7.holds Tryz.pinned (.plain (OpenSpec.upto replayScriptSpec)) replayScriptUptoCard
end Rows
end Go.Proofs.YtlffhbpkphigdaaGreatDoor
