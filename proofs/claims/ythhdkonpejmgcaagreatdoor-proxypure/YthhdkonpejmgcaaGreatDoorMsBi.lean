/-
  Known calls, run.
-/
import Derived.Test.YthhdkonpejmgcaaGreatDoorMs1
namespace Go.Proofs.YthhdkonpejmgcaaGreatDoor.proxyLives
open Go.Proofs Go.Shelf Go.ChangeShapes Go.WideShapes Go.ChangeAt Go.RowKit Go.Lx
set_option linter.unusedVariables false
theorem ms9_ok : MemoSOk Tryz.prog gl 303 ms9 := ⟨cfg1 Tryz.prog, rfl, rfl, exts1_ok, 100, by kernel_rfl⟩
end Go.Proofs.YthhdkonpejmgcaaGreatDoor.proxyLives
