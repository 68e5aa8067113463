/-
  Known calls, run.
-/
import Derived.Test.YthhdkonpejmgcaaGreatDoorMsA
namespace Go.Proofs.YthhdkonpejmgcaaGreatDoor.proxyLives
open Go.Proofs Go.Shelf Go.ChangeShapes Go.WideShapes Go.ChangeAt Go.RowKit Go.Lx
set_option linter.unusedVariables false
theorem ms0_ok : MemoSOk Tryz.prog gl 602 ms0 := ⟨cfgM Tryz.prog, rfl, rfl, extsM_ok, 100, by kernel_rfl⟩
theorem ms1_ok : MemoSOk Tryz.prog gl 602 ms1 := ⟨cfgM Tryz.prog, rfl, rfl, extsM_ok, 100, by kernel_rfl⟩
theorem ms2_ok : MemoSOk Tryz.prog gl 602 ms2 := ⟨cfgM Tryz.prog, rfl, rfl, extsM_ok, 100, by kernel_rfl⟩
theorem ms3_ok : MemoSOk Tryz.prog gl 602 ms3 := ⟨cfgM Tryz.prog, rfl, rfl, extsM_ok, 100, by kernel_rfl⟩
theorem ms5_ok : MemoSOk Tryz.prog gl 602 ms5 := ⟨cfgM Tryz.prog, rfl, rfl, extsM_ok, 100, by kernel_rfl⟩
end Go.Proofs.YthhdkonpejmgcaaGreatDoor.proxyLives
