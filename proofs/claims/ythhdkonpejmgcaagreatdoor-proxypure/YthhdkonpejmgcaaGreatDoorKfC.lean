/-
  What the row tells of the functions that it reaches.
-/
import Derived.Test.YthhdkonpejmgcaaGreatDoorRows
import Derived.Test.YthhdkonpejmgcaaGreatDoorCloA
import Derived.SevenTiedAt
import Derived.Stop.Joined
namespace Go.Proofs.YthhdkonpejmgcaaGreatDoor
open Go Go.Proofs
set_option linter.unusedVariables false
set_option maxRecDepth 100000
theorem k_inPlace5 : (Rows.proxyPureRow.inPlace == Tryz.prog.inPlace 5) = true := by
  unfold Program.inPlace
  rw [closure5]
  kernel_rfl
theorem unf5 : Tryz.prog.unfollowed 5 = true := by
  unfold Program.unfollowed
  rw [closure5]
  kernel_rfl
theorem k_unfollowed5 : (Rows.proxyPureRow.unfollowed == Tryz.prog.unfollowed 5) = true := by
  rw [unf5]
  kernel_rfl
theorem k_recurses5 : (Rows.proxyPureRow.recurses == Tryz.prog.recurses 5) = true := by
  unfold Program.recurses
  rw [unf5, Bool.true_or]
  kernel_rfl
end Go.Proofs.YthhdkonpejmgcaaGreatDoor
