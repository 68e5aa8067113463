/-
  Known calls, run.
-/
import Derived.Test.YthhdkonpejmgcaaGreatDoorMsA
namespace Go.Proofs.YthhdkonpejmgcaaGreatDoor.proxyLives
open Go.Proofs Go.Shelf Go.ChangeShapes Go.WideShapes Go.ChangeAt Go.RowKit Go.Lx
set_option linter.unusedVariables false
theorem ms6_ok : MemoSOk Tryz.prog gl 602 ms6 := ⟨cfgM Tryz.prog, rfl, rfl, extsM_ok, 100, by kernel_rfl⟩
theorem ms7_ok : MemoSOk Tryz.prog gl 602 ms7 := ⟨cfgM Tryz.prog, rfl, rfl, extsM_ok, 100, by kernel_rfl⟩
theorem ms8_ok : MemoSOk Tryz.prog gl 602 ms8 := ⟨cfgM Tryz.prog, rfl, rfl, extsM_ok, 100, by kernel_rfl⟩
theorem ms12_ok : MemoSOk Tryz.prog gl 602 ms12 := ⟨cfgM Tryz.prog, rfl, rfl, extsM_ok, 100, by kernel_rfl⟩
theorem ms13_ok : MemoSOk Tryz.prog gl 602 ms13 := ⟨cfgM Tryz.prog, rfl, rfl, extsM_ok, 100, by kernel_rfl⟩
end Go.Proofs.YthhdkonpejmgcaaGreatDoor.proxyLives
