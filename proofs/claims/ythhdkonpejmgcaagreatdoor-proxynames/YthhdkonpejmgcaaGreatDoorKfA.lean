/-
  What the row tells of the functions that it reaches.
-/
import Derived.Test.YthhdkonpejmgcaaGreatDoorRows
import Derived.Test.YthhdkonpejmgcaaGreatDoorCloA
import Derived.SevenTiedAt
import Derived.Stop.Joined
namespace Go.Proofs.YthhdkonpejmgcaaGreatDoor
open Go Go.Proofs
set_option linter.unusedVariables false
set_option maxRecDepth 100000
theorem k_inPlace3 : (Rows.proxyNamesRow.inPlace == Tryz.prog.inPlace 3) = true := by
  unfold Program.inPlace
  rw [closure3]
  kernel_rfl
theorem unf3 : Tryz.prog.unfollowed 3 = true := by
  unfold Program.unfollowed
  rw [closure3]
  kernel_rfl
theorem k_unfollowed3 : (Rows.proxyNamesRow.unfollowed == Tryz.prog.unfollowed 3) = true := by
  rw [unf3]
  kernel_rfl
theorem k_recurses3 : (Rows.proxyNamesRow.recurses == Tryz.prog.recurses 3) = true := by
  unfold Program.recurses
  rw [unf3, Bool.true_or]
  kernel_rfl
end Go.Proofs.YthhdkonpejmgcaaGreatDoor
