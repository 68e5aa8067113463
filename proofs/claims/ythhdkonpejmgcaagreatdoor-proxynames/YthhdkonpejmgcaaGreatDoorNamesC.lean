/-
  The row's closed facts, together.
-/
import Derived.Test.YthhdkonpejmgcaaGreatDoorKfA
import Derived.Test.YthhdkonpejmgcaaGreatDoorKgA
import Derived.Test.YthhdkonpejmgcaaGreatDoorKhA
import Derived.Test.YthhdkonpejmgcaaGreatDoorKhB
import Derived.Test.YthhdkonpejmgcaaGreatDoorKhC
import Derived.Test.YthhdkonpejmgcaaGreatDoorKhD
import Derived.Test.YthhdkonpejmgcaaGreatDoorTiC
import Derived.Test.YthhdkonpejmgcaaGreatDoorLvA
namespace Go.Proofs.YthhdkonpejmgcaaGreatDoor.proxyNames
open Go.Proofs Go.Shelf Go.ChangeShapes Go.WideShapes Go.ChangeAt Go.RowKit Go.Lx Go.Proofs.YthhdkonpejmgcaaGreatDoor.proxyLives
set_option linter.unusedVariables false
set_option maxRecDepth 100000 in
theorem closed : joinedFacts Tryz.prog 3 Tryz.f3 Rows.proxyNamesSpec Rows.proxyNamesRow = true := by
  unfold joinedFacts
  rw [k_inPlace3, k_unfollowed3, k_recurses3, k_named3, laid.laidOut, k_mapsRowed, show (Rows.proxyNamesRow.plainKeys == Tryz.prog.plainKeys) = true from k_plain, k_heard, k_enter, show (Rows.proxyNamesRow.lifted == Tryz.prog.liftsFinal) = true from k_lift, show (Tryz.prog.make == some Rows.proxyNamesRow.make) = true from k_make]
  kernel_rfl
end Go.Proofs.YthhdkonpejmgcaaGreatDoor.proxyNames
