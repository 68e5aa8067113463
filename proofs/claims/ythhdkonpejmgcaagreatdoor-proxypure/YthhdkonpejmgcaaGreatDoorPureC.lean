/-
  The row's closed facts, together.
-/
import Derived.Test.YthhdkonpejmgcaaGreatDoorKfC
import Derived.Test.YthhdkonpejmgcaaGreatDoorKgC
import Derived.Test.YthhdkonpejmgcaaGreatDoorKhA
import Derived.Test.YthhdkonpejmgcaaGreatDoorKhB
import Derived.Test.YthhdkonpejmgcaaGreatDoorKhC
import Derived.Test.YthhdkonpejmgcaaGreatDoorKhD
import Derived.Test.YthhdkonpejmgcaaGreatDoorTiC
import Derived.Test.YthhdkonpejmgcaaGreatDoorLvA
namespace Go.Proofs.YthhdkonpejmgcaaGreatDoor.proxyPure
open Go.Proofs Go.Shelf Go.ChangeShapes Go.WideShapes Go.ChangeAt Go.RowKit Go.Lx Go.Proofs.YthhdkonpejmgcaaGreatDoor.proxyLives
set_option linter.unusedVariables false
set_option maxRecDepth 100000 in
theorem closed : joinedFacts Tryz.prog 5 Tryz.f5 Rows.proxyPureSpec Rows.proxyPureRow = true := by
  unfold joinedFacts
  rw [k_inPlace5, k_unfollowed5, k_recurses5, k_named5, laid.laidOut, k_mapsRowed, show (Rows.proxyPureRow.plainKeys == Tryz.prog.plainKeys) = true from k_plain, k_heard, k_enter, show (Rows.proxyPureRow.lifted == Tryz.prog.liftsFinal) = true from k_lift, show (Tryz.prog.make == some Rows.proxyPureRow.make) = true from k_make]
  kernel_rfl
end Go.Proofs.YthhdkonpejmgcaaGreatDoor.proxyPure
