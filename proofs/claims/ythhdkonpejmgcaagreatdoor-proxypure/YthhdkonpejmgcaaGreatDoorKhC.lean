/-
  A fact of the program.
-/
import Derived.Test.YthhdkonpejmgcaaGreatDoorRows
import Derived.Test.YthhdkonpejmgcaaGreatDoorLy2
import Derived.SevenTiedAt
import Derived.Stop.Joined
namespace Go.Proofs.YthhdkonpejmgcaaGreatDoor
open Go Go.Proofs Go.Shelf Go.ChangeShapes Go.WideShapes Go.ChangeAt Go.RowKit
set_option linter.unusedVariables false
set_option maxRecDepth 100000
theorem k_heard : Tryz.prog.stopsHeard = true := by kernel_rfl
end Go.Proofs.YthhdkonpejmgcaaGreatDoor
