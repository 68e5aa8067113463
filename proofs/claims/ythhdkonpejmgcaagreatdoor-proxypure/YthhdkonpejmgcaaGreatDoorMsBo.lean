/-
  Known calls, run.
-/
import Derived.Test.YthhdkonpejmgcaaGreatDoorMs3
namespace Go.Proofs.YthhdkonpejmgcaaGreatDoor.proxyLives
open Go.Proofs Go.Shelf Go.ChangeShapes Go.WideShapes Go.ChangeAt Go.RowKit Go.Lx
set_option linter.unusedVariables false
theorem ms11_ok : MemoSOk Tryz.prog gl 6 ms11 := ⟨cfg3 Tryz.prog, rfl, rfl, exts3_ok, 100, by kernel_rfl⟩
end Go.Proofs.YthhdkonpejmgcaaGreatDoor.proxyLives
