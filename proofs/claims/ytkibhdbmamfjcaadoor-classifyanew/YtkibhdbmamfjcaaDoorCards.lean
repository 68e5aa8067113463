/-
  DERIVED. GIVEN WITH THE SEED: THE CARDS: each row of YtkibhdbmamfjcaaDoorRows.lean that lists a variable, with what it lists TIED to the program's text (the seventh form; the later family's looks); each row that meets fmt, with fmt's text TOLD by the authors' own Lean function (tested against real Go, not proved from fmt's source: count such statements apart). THE CARD IS WHAT COUNTS. Prove the row's statement (the work); the ties are given (YtkibhdbmamfjcaaDoorTie.lean); close each card by the builder's one call (the guide's Derived/Test/ToyasCard.lean, 'card_holds'). Laid BY PROGRAM, IN A SANDBOX (cutbox-door.mjs). By AI agents, Wed Nov 11 2026. No macro, syntax, notation, axiom, sorry.
-/
import Derived.Test.YtkibhdbmamfjcaaDoorRows
import GoSem.ClaimSeven
namespace Go.Proofs.YtkibhdbmamfjcaaDoor
namespace Rows

/-- THE TIED CARD OF 'sluicegatelaw19.ScanCalls'. -/
def scanCallsCard : Claim7 := { stood := { row := scanCallsRow, standIns := [], harness := (true, "eee026a2cbb38d31889dcab513ce5fec20ad3f0278a0907df69fc01d6fc162e8"), looks := false }, kinds := [], alts := [], laidByText := true, laidKinds := [.data, .listed, .data, .pinned], laidTests := true, laidLooks := .later }
def ScanCallsCardSaid : Prop := Claim7.holds Tryd.pinned (.plain (OpenSpec.ofChange scanCallsSpec)) scanCallsCard

/-- THE TIED CARD OF 'sluicegatelaw19.ScanSplit'. -/
def scanSplitCard : Claim7 := { stood := { row := scanSplitRow, standIns := [], harness := (true, "eee026a2cbb38d31889dcab513ce5fec20ad3f0278a0907df69fc01d6fc162e8"), looks := false }, kinds := [], alts := [], laidByText := true, laidKinds := [.data, .listed, .data, .pinned], laidTests := true, laidLooks := .later }
def ScanSplitCardSaid : Prop := Claim7.holds Tryd.pinned (.plain (OpenSpec.ofChange scanSplitSpec)) scanSplitCard

/-- THE TIED CARD OF 'sluicegatelaw19.ScanNames'. -/
def scanNamesCard : Claim7 := { stood := { row := scanNamesRow, standIns := [], harness := (true, "eee026a2cbb38d31889dcab513ce5fec20ad3f0278a0907df69fc01d6fc162e8"), looks := false }, kinds := [], alts := [], laidByText := true, laidKinds := [.data, .listed, .data, .pinned], laidTests := true, laidLooks := .later }
def ScanNamesCardSaid : Prop := Claim7.holds Tryd.pinned (.plain (OpenSpec.ofChange scanNamesSpec)) scanNamesCard

/-- THE TIED CARD OF 'sluicegatelaw21.DigestNames'. -/
def digestNamesCard : Claim7 := { stood := { row := digestNamesRow, standIns := [], harness := (true, "eee026a2cbb38d31889dcab513ce5fec20ad3f0278a0907df69fc01d6fc162e8"), looks := false }, kinds := [], alts := [], laidByText := true, laidKinds := [.data, .listed, .data, .pinned], laidTests := true, laidLooks := .later }
def DigestNamesCardSaid : Prop := Claim7.holds Tryd.pinned (.plain (OpenSpec.ofChange digestNamesSpec)) digestNamesCard

/-- THE TIED CARD OF 'sluicegatelaw21.DigestHash'. -/
def digestHashCard : Claim7 := { stood := { row := digestHashRow, standIns := [], harness := (true, "eee026a2cbb38d31889dcab513ce5fec20ad3f0278a0907df69fc01d6fc162e8"), looks := false }, kinds := [], alts := [], laidByText := true, laidKinds := [.data, .listed, .data, .pinned], laidTests := true, laidLooks := .later }
def DigestHashCardSaid : Prop := Claim7.holds Tryd.pinned (.plain (OpenSpec.ofChange digestHashSpec)) digestHashCard

/-- THE TIED CARD OF 'sluicegatelaw20.ClassifyOdd'. -/
def classifyOddCard : Claim7 := { stood := { row := classifyOddRow, standIns := [], harness := (true, "eee026a2cbb38d31889dcab513ce5fec20ad3f0278a0907df69fc01d6fc162e8"), looks := false }, kinds := [], alts := [], laidByText := true, laidKinds := [.data, .listed, .data, .pinned], laidTests := true, laidLooks := .later }
def ClassifyOddCardSaid : Prop := Claim7.holds Tryd.pinned (.plain (OpenSpec.ofChange classifyOddSpec)) classifyOddCard

/-- THE TIED CARD OF 'sluicegatelaw20.ClassifyEach'. -/
def classifyEachCard : Claim7 := { stood := { row := classifyEachRow, standIns := [], harness := (true, "eee026a2cbb38d31889dcab513ce5fec20ad3f0278a0907df69fc01d6fc162e8"), looks := false }, kinds := [], alts := [], laidByText := true, laidKinds := [.data, .listed, .data, .pinned], laidTests := true, laidLooks := .later }
def ClassifyEachCardSaid : Prop := Claim7.holds Tryd.pinned (.plain (OpenSpec.ofChange classifyEachSpec)) classifyEachCard

/-- THE TIED CARD OF 'sluicegatelaw20.ClassifyNames'. -/
def classifyNamesCard : Claim7 := { stood := { row := classifyNamesRow, standIns := [], harness := (true, "eee026a2cbb38d31889dcab513ce5fec20ad3f0278a0907df69fc01d6fc162e8"), looks := false }, kinds := [], alts := [], laidByText := true, laidKinds := [.data, .listed, .data, .pinned], laidTests := true, laidLooks := .later }
def ClassifyNamesCardSaid : Prop := Claim7.holds Tryd.pinned (.plain (OpenSpec.ofChange classifyNamesSpec)) classifyNamesCard

/-- THE TIED CARD OF 'sluicegatelaw20.ClassifyAnew'. -/
def classifyAnewCard : Claim7 := { stood := { row := classifyAnewRow, standIns := [], harness := (true, "eee026a2cbb38d31889dcab513ce5fec20ad3f0278a0907df69fc01d6fc162e8"), looks := false }, kinds := [], alts := [], laidByText := true, laidKinds := [.data, .listed, .data, .pinned], laidTests := true, laidLooks := .later }
def ClassifyAnewCardSaid : Prop := Claim7.holds Tryd.pinned (.plain (OpenSpec.ofChange classifyAnewSpec)) classifyAnewCard

/-- THE TIED CARD OF 'sluicegatelaw20.ClassifyCase'. -/
def classifyCaseCard : Claim7 := { stood := { row := classifyCaseRow, standIns := [], harness := (true, "eee026a2cbb38d31889dcab513ce5fec20ad3f0278a0907df69fc01d6fc162e8"), looks := false }, kinds := [], alts := [], laidByText := true, laidKinds := [.data, .listed, .data, .pinned], laidTests := true, laidLooks := .later }
def ClassifyCaseCardSaid : Prop := Claim7.holds Tryd.pinned (.plain (OpenSpec.ofChange classifyCaseSpec)) classifyCaseCard

/-- THE SECOND FORM's CARD OF 'sluicegatelaw19.ScanCalls'. -/
def scanCallsUptoCard : Claim7 := { stood := { row := scanCallsUptoRow, standIns := [], harness := (true, "eee026a2cbb38d31889dcab513ce5fec20ad3f0278a0907df69fc01d6fc162e8"), looks := false }, kinds := [], alts := [], laidByText := true, laidKinds := [.data, .listed, .data, .pinned], laidTests := true, laidLooks := .later }
def ScanCallsUptoCardSaid : Prop := Claim7.holds Tryd.pinned (.plain (OpenSpec.upto scanCallsSpec)) scanCallsUptoCard

/-- THE SECOND FORM's CARD OF 'sluicegatelaw19.ScanSplit'. -/
def scanSplitUptoCard : Claim7 := { stood := { row := scanSplitUptoRow, standIns := [], harness := (true, "eee026a2cbb38d31889dcab513ce5fec20ad3f0278a0907df69fc01d6fc162e8"), looks := false }, kinds := [], alts := [], laidByText := true, laidKinds := [.data, .listed, .data, .pinned], laidTests := true, laidLooks := .later }
def ScanSplitUptoCardSaid : Prop := Claim7.holds Tryd.pinned (.plain (OpenSpec.upto scanSplitSpec)) scanSplitUptoCard

/-- THE SECOND FORM's CARD OF 'sluicegatelaw19.ScanNames'. -/
def scanNamesUptoCard : Claim7 := { stood := { row := scanNamesUptoRow, standIns := [], harness := (true, "eee026a2cbb38d31889dcab513ce5fec20ad3f0278a0907df69fc01d6fc162e8"), looks := false }, kinds := [], alts := [], laidByText := true, laidKinds := [.data, .listed, .data, .pinned], laidTests := true, laidLooks := .later }
def ScanNamesUptoCardSaid : Prop := Claim7.holds Tryd.pinned (.plain (OpenSpec.upto scanNamesSpec)) scanNamesUptoCard

/-- THE SECOND FORM's CARD OF 'sluicegatelaw21.DigestNames'. -/
def digestNamesUptoCard : Claim7 := { stood := { row := digestNamesUptoRow, standIns := [], harness := (true, "eee026a2cbb38d31889dcab513ce5fec20ad3f0278a0907df69fc01d6fc162e8"), looks := false }, kinds := [], alts := [], laidByText := true, laidKinds := [.data, .listed, .data, .pinned], laidTests := true, laidLooks := .later }
def DigestNamesUptoCardSaid : Prop := Claim7.holds Tryd.pinned (.plain (OpenSpec.upto digestNamesSpec)) digestNamesUptoCard

/-- THE SECOND FORM's CARD OF 'sluicegatelaw21.DigestHash'. -/
def digestHashUptoCard : Claim7 := { stood := { row := digestHashUptoRow, standIns := [], harness := (true, "eee026a2cbb38d31889dcab513ce5fec20ad3f0278a0907df69fc01d6fc162e8"), looks := false }, kinds := [], alts := [], laidByText := true, laidKinds := [.data, .listed, .data, .pinned], laidTests := true, laidLooks := .later }
def DigestHashUptoCardSaid : Prop := Claim7.holds Tryd.pinned (.plain (OpenSpec.upto digestHashSpec)) digestHashUptoCard

/-- THE SECOND FORM's CARD OF 'sluicegatelaw20.ClassifyOdd'. -/
def classifyOddUptoCard : Claim7 := { stood := { row := classifyOddUptoRow, standIns := [], harness := (true, "eee026a2cbb38d31889dcab513ce5fec20ad3f0278a0907df69fc01d6fc162e8"), looks := false }, kinds := [], alts := [], laidByText := true, laidKinds := [.data, .listed, .data, .pinned], laidTests := true, laidLooks := .later }
def ClassifyOddUptoCardSaid : Prop := Claim7.holds Tryd.pinned (.plain (OpenSpec.upto classifyOddSpec)) classifyOddUptoCard

/-- THE SECOND FORM's CARD OF 'sluicegatelaw20.ClassifyEach'. -/
def classifyEachUptoCard : Claim7 := { stood := { row := classifyEachUptoRow, standIns := [], harness := (true, "eee026a2cbb38d31889dcab513ce5fec20ad3f0278a0907df69fc01d6fc162e8"), looks := false }, kinds := [], alts := [], laidByText := true, laidKinds := [.data, .listed, .data, .pinned], laidTests := true, laidLooks := .later }
def ClassifyEachUptoCardSaid : Prop := Claim7.holds Tryd.pinned (.plain (OpenSpec.upto classifyEachSpec)) classifyEachUptoCard

/-- THE SECOND FORM's CARD OF 'sluicegatelaw20.ClassifyNames'. -/
def classifyNamesUptoCard : Claim7 := { stood := { row := classifyNamesUptoRow, standIns := [], harness := (true, "eee026a2cbb38d31889dcab513ce5fec20ad3f0278a0907df69fc01d6fc162e8"), looks := false }, kinds := [], alts := [], laidByText := true, laidKinds := [.data, .listed, .data, .pinned], laidTests := true, laidLooks := .later }
def ClassifyNamesUptoCardSaid : Prop := Claim7.holds Tryd.pinned (.plain (OpenSpec.upto classifyNamesSpec)) classifyNamesUptoCard

/-- THE SECOND FORM's CARD OF 'sluicegatelaw20.ClassifyAnew'. -/
def classifyAnewUptoCard : Claim7 := { stood := { row := classifyAnewUptoRow, standIns := [], harness := (true, "eee026a2cbb38d31889dcab513ce5fec20ad3f0278a0907df69fc01d6fc162e8"), looks := false }, kinds := [], alts := [], laidByText := true, laidKinds := [.data, .listed, .data, .pinned], laidTests := true, laidLooks := .later }
def ClassifyAnewUptoCardSaid : Prop := Claim7.holds Tryd.pinned (.plain (OpenSpec.upto classifyAnewSpec)) classifyAnewUptoCard

/-- THE SECOND FORM's CARD OF 'sluicegatelaw20.ClassifyCase'. -/
def classifyCaseUptoCard : Claim7 := { stood := { row := classifyCaseUptoRow, standIns := [], harness := (true, "eee026a2cbb38d31889dcab513ce5fec20ad3f0278a0907df69fc01d6fc162e8"), looks := false }, kinds := [], alts := [], laidByText := true, laidKinds := [.data, .listed, .data, .pinned], laidTests := true, laidLooks := .later }
def ClassifyCaseUptoCardSaid : Prop := Claim7.holds Tryd.pinned (.plain (OpenSpec.upto classifyCaseSpec)) classifyCaseUptoCard
end Rows
end Go.Proofs.YtkibhdbmamfjcaaDoor
