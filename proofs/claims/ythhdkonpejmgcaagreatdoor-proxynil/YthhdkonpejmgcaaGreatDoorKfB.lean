/-
  What the row tells of the functions that it reaches.
-/
import Derived.Test.YthhdkonpejmgcaaGreatDoorRows
import Derived.Test.YthhdkonpejmgcaaGreatDoorCloA
import Derived.SevenTiedAt
import Derived.Stop.Joined
namespace Go.Proofs.YthhdkonpejmgcaaGreatDoor
open Go Go.Proofs
set_option linter.unusedVariables false
set_option maxRecDepth 100000
theorem k_inPlace4 : (Rows.proxyNilRow.inPlace == Tryz.prog.inPlace 4) = true := by
  unfold Program.inPlace
  rw [closure4]
  kernel_rfl
theorem unf4 : Tryz.prog.unfollowed 4 = true := by
  unfold Program.unfollowed
  rw [closure4]
  kernel_rfl
theorem k_unfollowed4 : (Rows.proxyNilRow.unfollowed == Tryz.prog.unfollowed 4) = true := by
  rw [unf4]
  kernel_rfl
theorem k_recurses4 : (Rows.proxyNilRow.recurses == Tryz.prog.recurses 4) = true := by
  unfold Program.recurses
  rw [unf4, Bool.true_or]
  kernel_rfl
end Go.Proofs.YthhdkonpejmgcaaGreatDoor
