/-
  Several texts, joined.
-/
import Derived.Test.YthhdkonpejmgcaaGreatDoorRows
import Derived.Test.YthhdkonpejmgcaaGreatDoorLy2
import Derived.SevenTiedAt
import Derived.Stop.Joined
/-
  A fact of the program.
-/
namespace Go.Proofs.YthhdkonpejmgcaaGreatDoor
open Go Go.Proofs Go.Shelf Go.ChangeShapes Go.WideShapes Go.ChangeAt Go.RowKit
set_option linter.unusedVariables false
set_option maxRecDepth 100000
theorem k_plain : (Rows.proxyNamesRow.plainKeys == Tryz.prog.plainKeys) = true := by kernel_rfl
theorem k_plainN : (Rows.proxyNilRow.plainKeys == Tryz.prog.plainKeys) = true := k_plain
theorem k_plainP : (Rows.proxyPureRow.plainKeys == Tryz.prog.plainKeys) = true := k_plain
end Go.Proofs.YthhdkonpejmgcaaGreatDoor

/-
  A fact of the program.
-/
namespace Go.Proofs.YthhdkonpejmgcaaGreatDoor
open Go Go.Proofs Go.Shelf Go.ChangeShapes Go.WideShapes Go.ChangeAt Go.RowKit
set_option linter.unusedVariables false
set_option maxRecDepth 100000
theorem k_lift : (Rows.proxyNamesRow.lifted == Tryz.prog.liftsFinal) = true := by kernel_rfl
end Go.Proofs.YthhdkonpejmgcaaGreatDoor

/-
  A fact of the program.
-/
namespace Go.Proofs.YthhdkonpejmgcaaGreatDoor
open Go Go.Proofs Go.Shelf Go.ChangeShapes Go.WideShapes Go.ChangeAt Go.RowKit
set_option linter.unusedVariables false
set_option maxRecDepth 100000
theorem k_make : (Tryz.prog.make == some Rows.proxyNamesRow.make) = true := by kernel_rfl
end Go.Proofs.YthhdkonpejmgcaaGreatDoor
