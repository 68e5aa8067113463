/-
  The row's closed facts, together.
-/
import Derived.Test.YthhdkonpejmgcaaGreatDoorKfB
import Derived.Test.YthhdkonpejmgcaaGreatDoorKgB
import Derived.Test.YthhdkonpejmgcaaGreatDoorKhA
import Derived.Test.YthhdkonpejmgcaaGreatDoorKhB
import Derived.Test.YthhdkonpejmgcaaGreatDoorKhC
import Derived.Test.YthhdkonpejmgcaaGreatDoorKhD
import Derived.Test.YthhdkonpejmgcaaGreatDoorTiC
import Derived.Test.YthhdkonpejmgcaaGreatDoorLvA
namespace Go.Proofs.YthhdkonpejmgcaaGreatDoor.proxyNil
open Go.Proofs Go.Shelf Go.ChangeShapes Go.WideShapes Go.ChangeAt Go.RowKit Go.Lx Go.Proofs.YthhdkonpejmgcaaGreatDoor.proxyLives
set_option linter.unusedVariables false
set_option maxRecDepth 100000 in
theorem closed : joinedFacts Tryz.prog 4 Tryz.f4 Rows.proxyNilSpec Rows.proxyNilRow = true := by
  unfold joinedFacts
  rw [k_inPlace4, k_unfollowed4, k_recurses4, k_named4, laid.laidOut, k_mapsRowed, show (Rows.proxyNilRow.plainKeys == Tryz.prog.plainKeys) = true from k_plain, k_heard, k_enter, show (Rows.proxyNilRow.lifted == Tryz.prog.liftsFinal) = true from k_lift, show (Tryz.prog.make == some Rows.proxyNilRow.make) = true from k_make]
  kernel_rfl
end Go.Proofs.YthhdkonpejmgcaaGreatDoor.proxyNil
