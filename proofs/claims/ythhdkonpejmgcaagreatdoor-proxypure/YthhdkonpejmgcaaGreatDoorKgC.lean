/-
  The variables that the row names.
-/
import Derived.Test.YthhdkonpejmgcaaGreatDoorRows
import Derived.Test.YthhdkonpejmgcaaGreatDoorCloA
import Derived.SevenTiedAt
import Derived.Stop.Joined
namespace Go.Proofs.YthhdkonpejmgcaaGreatDoor
open Go Go.Proofs
set_option linter.unusedVariables false
set_option maxRecDepth 100000
theorem k_named5 : (Rows.proxyPureRow.named == Tryz.prog.varsNamed 5) = true := by
  unfold Program.varsNamed
  rw [closure5]
  kernel_rfl
end Go.Proofs.YthhdkonpejmgcaaGreatDoor
