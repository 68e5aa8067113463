/-
  DERIVED. GIVEN WITH THE SEED: THE CARDS: each row of YthhdkonpejmgcaaGreatDoorRows.lean that lists a variable, with what it lists TIED to the program's text (the seventh form; the later family's looks); each row that meets fmt, with fmt's text TOLD by the authors' own Lean function (tested against real Go, not proved from fmt's source: count such statements apart). THE CARD IS WHAT COUNTS. Prove the row's statement (the work); the ties are given (YthhdkonpejmgcaaGreatDoorTie.lean); close each card by the builder's one call (the guide's Derived/Test/ToyasCard.lean, 'card_holds'). Laid BY PROGRAM, IN A SANDBOX (cutbox-door.mjs). By AI agents, Wed Nov 11 2026. No macro, syntax, notation, axiom, sorry.
-/
import Derived.Test.YthhdkonpejmgcaaGreatDoorRows
import GoSem.ClaimSeven
namespace Go.Proofs.YthhdkonpejmgcaaGreatDoor
namespace Rows

/-- THE TIED CARD OF 'sluicegatelaw31.ProxyNames'. -/
def proxyNamesCard : Claim7 := { stood := { row := proxyNamesRow, standIns := [], harness := (true, "2e9c771132211b341bde76546447f32a389b9b909598d1abab7591192e2bc905"), looks := true }, kinds := [], alts := [], laidByText := true, laidKinds := [.data, .data, .data, .data, .sentinel, .sentinel, .listed, .data, .data, .pinned], laidTests := true, laidLooks := .later }
def ProxyNamesCardSaid : Prop := Claim7.holds Tryz.pinned (.plain (OpenSpec.ofChange proxyNamesSpec)) proxyNamesCard

/-- THE TIED CARD OF 'sluicegatelaw31.ProxyNil'. -/
def proxyNilCard : Claim7 := { stood := { row := proxyNilRow, standIns := [], harness := (true, "2e9c771132211b341bde76546447f32a389b9b909598d1abab7591192e2bc905"), looks := true }, kinds := [], alts := [], laidByText := true, laidKinds := [.data, .data, .data, .data, .sentinel, .sentinel, .listed, .data, .data, .pinned], laidTests := true, laidLooks := .later }
def ProxyNilCardSaid : Prop := Claim7.holds Tryz.pinned (.plain (OpenSpec.ofChange proxyNilSpec)) proxyNilCard

/-- THE TIED CARD OF 'sluicegatelaw31.ProxyPure'. -/
def proxyPureCard : Claim7 := { stood := { row := proxyPureRow, standIns := [], harness := (true, "2e9c771132211b341bde76546447f32a389b9b909598d1abab7591192e2bc905"), looks := true }, kinds := [], alts := [], laidByText := true, laidKinds := [.data, .data, .data, .data, .sentinel, .sentinel, .listed, .data, .data, .pinned], laidTests := true, laidLooks := .later }
def ProxyPureCardSaid : Prop := Claim7.holds Tryz.pinned (.plain (OpenSpec.ofChange proxyPureSpec)) proxyPureCard

/-- THE SECOND FORM's CARD OF 'sluicegatelaw31.ProxyNames'. -/
def proxyNamesUptoCard : Claim7 := { stood := { row := proxyNamesUptoRow, standIns := [], harness := (true, "2e9c771132211b341bde76546447f32a389b9b909598d1abab7591192e2bc905"), looks := true }, kinds := [], alts := [], laidByText := true, laidKinds := [.data, .data, .data, .data, .sentinel, .sentinel, .listed, .data, .data, .pinned], laidTests := true, laidLooks := .later }
def ProxyNamesUptoCardSaid : Prop := Claim7.holds Tryz.pinned (.plain (OpenSpec.upto proxyNamesSpec)) proxyNamesUptoCard

/-- THE SECOND FORM's CARD OF 'sluicegatelaw31.ProxyNil'. -/
def proxyNilUptoCard : Claim7 := { stood := { row := proxyNilUptoRow, standIns := [], harness := (true, "2e9c771132211b341bde76546447f32a389b9b909598d1abab7591192e2bc905"), looks := true }, kinds := [], alts := [], laidByText := true, laidKinds := [.data, .data, .data, .data, .sentinel, .sentinel, .listed, .data, .data, .pinned], laidTests := true, laidLooks := .later }
def ProxyNilUptoCardSaid : Prop := Claim7.holds Tryz.pinned (.plain (OpenSpec.upto proxyNilSpec)) proxyNilUptoCard

/-- THE SECOND FORM's CARD OF 'sluicegatelaw31.ProxyPure'. -/
def proxyPureUptoCard : Claim7 := { stood := { row := proxyPureUptoRow, standIns := [], harness := (true, "2e9c771132211b341bde76546447f32a389b9b909598d1abab7591192e2bc905"), looks := true }, kinds := [], alts := [], laidByText := true, laidKinds := [.data, .data, .data, .data, .sentinel, .sentinel, .listed, .data, .data, .pinned], laidTests := true, laidLooks := .later }
def ProxyPureUptoCardSaid : Prop := Claim7.holds Tryz.pinned (.plain (OpenSpec.upto proxyPureSpec)) proxyPureUptoCard
end Rows
end Go.Proofs.YthhdkonpejmgcaaGreatDoor
