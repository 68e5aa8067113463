/-
  DERIVED. GIVEN WITH THE SEED: THE CARDS: each row of YtlffhbpkphigdaaDoorRows.lean that lists a variable, with what it lists TIED to the program's text (the seventh form; the later family's looks); each row that meets fmt, with fmt's text TOLD by the authors' own Lean function (tested against real Go, not proved from fmt's source: count such statements apart). THE CARD IS WHAT COUNTS. Prove the row's statement (the work); the ties are given (YtlffhbpkphigdaaDoorTie.lean); close each card by the builder's one call (the guide's Derived/Test/ToyasCard.lean, 'card_holds'). Laid BY PROGRAM, IN A SANDBOX (cutbox-door.mjs). By AI agents, Wed Nov 11 2026. No macro, syntax, notation, axiom, sorry.
-/
import Derived.Test.YtlffhbpkphigdaaDoorRows
import GoSem.ClaimSeven
namespace Go.Proofs.YtlffhbpkphigdaaDoor
namespace Rows

/-- THE TIED CARD OF 'sluicegatelaw26.ReplayNil'. -/
def replayNilCard : Claim7 := { stood := { row := replayNilRow, standIns := [], harness := (true, "879bf1108b54e3422ba08b51b3a78556b15841d9421f28e1df403199350d2a52"), looks := false }, kinds := [], alts := [], laidByText := true, laidKinds := [.data, .pinned], laidTests := true, laidLooks := .later }
def ReplayNilCardSaid : Prop := Claim7.holds Tryd.pinned (.plain (OpenSpec.ofChange replayNilSpec)) replayNilCard

/-- THE TIED CARD OF 'sluicegatelaw26.ReplayNames'. -/
def replayNamesCard : Claim7 := { stood := { row := replayNamesRow, standIns := [], harness := (true, "879bf1108b54e3422ba08b51b3a78556b15841d9421f28e1df403199350d2a52"), looks := false }, kinds := [], alts := [], laidByText := true, laidKinds := [.data, .pinned], laidTests := true, laidLooks := .later }
def ReplayNamesCardSaid : Prop := Claim7.holds Tryd.pinned (.plain (OpenSpec.ofChange replayNamesSpec)) replayNamesCard

/-- THE SECOND FORM's CARD OF 'sluicegatelaw26.ReplayNil'. -/
def replayNilUptoCard : Claim7 := { stood := { row := replayNilUptoRow, standIns := [], harness := (true, "879bf1108b54e3422ba08b51b3a78556b15841d9421f28e1df403199350d2a52"), looks := false }, kinds := [], alts := [], laidByText := true, laidKinds := [.data, .pinned], laidTests := true, laidLooks := .later }
def ReplayNilUptoCardSaid : Prop := Claim7.holds Tryd.pinned (.plain (OpenSpec.upto replayNilSpec)) replayNilUptoCard

/-- THE SECOND FORM's CARD OF 'sluicegatelaw26.ReplayNames'. -/
def replayNamesUptoCard : Claim7 := { stood := { row := replayNamesUptoRow, standIns := [], harness := (true, "879bf1108b54e3422ba08b51b3a78556b15841d9421f28e1df403199350d2a52"), looks := false }, kinds := [], alts := [], laidByText := true, laidKinds := [.data, .pinned], laidTests := true, laidLooks := .later }
def ReplayNamesUptoCardSaid : Prop := Claim7.holds Tryd.pinned (.plain (OpenSpec.upto replayNamesSpec)) replayNamesUptoCard
end Rows
end Go.Proofs.YtlffhbpkphigdaaDoor
