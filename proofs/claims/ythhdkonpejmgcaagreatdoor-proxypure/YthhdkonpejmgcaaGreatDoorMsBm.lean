/-
  Known calls, run.
-/
import Derived.Test.YthhdkonpejmgcaaGreatDoorMs2
namespace Go.Proofs.YthhdkonpejmgcaaGreatDoor.proxyLives
open Go.Proofs Go.Shelf Go.ChangeShapes Go.WideShapes Go.ChangeAt Go.RowKit Go.Lx
set_option linter.unusedVariables false
theorem ms10_ok : MemoSOk Tryz.prog gl 90 ms10 := ⟨cfg2 Tryz.prog, rfl, rfl, exts2_ok, 100, by kernel_rfl⟩
end Go.Proofs.YthhdkonpejmgcaaGreatDoor.proxyLives
