/-
  Known calls, run.
-/
import Derived.Test.YthhdkonpejmgcaaGreatDoorMsA
namespace Go.Proofs.YthhdkonpejmgcaaGreatDoor.proxyLives
open Go.Proofs Go.Shelf Go.ChangeShapes Go.WideShapes Go.ChangeAt Go.RowKit Go.Lx
set_option linter.unusedVariables false
theorem ms18_ok : MemoSOk Tryz.prog gl 603 ms18 := ⟨cfgM Tryz.prog, rfl, rfl, extsM_ok, 100, by kernel_rfl⟩
theorem ms19_ok : MemoSOk Tryz.prog gl 603 ms19 := ⟨cfgM Tryz.prog, rfl, rfl, extsM_ok, 100, by kernel_rfl⟩
end Go.Proofs.YthhdkonpejmgcaaGreatDoor.proxyLives
