/-
  The statement of the row.
-/
import Derived.Test.YthhdkonpejmgcaaGreatDoorNilA
import Derived.Test.YthhdkonpejmgcaaGreatDoorNilC
namespace Go.Proofs.YthhdkonpejmgcaaGreatDoor.proxyNil
open Go.Proofs Go.Shelf Go.ChangeShapes Go.WideShapes Go.ChangeAt Go.RowKit Go.Lx Go.Proofs.YthhdkonpejmgcaaGreatDoor.proxyLives
set_option linter.unusedVariables false
theorem over : Rows.ProxyNilSaid :=
  OpenClaim.holds_of_wide 4 Tryz.f4 rfl rfl rfl rfl rfl rfl rfl ⟨rfl, rfl, rfl, rfl, rfl⟩ rfl rfl rfl rfl rfl (by kernel_rfl) Tryz.func4 closed
    (of_decide_eq_true (by kernel_rfl)) (by unfold Func.isWrapper; first | (rw [if_pos (by decide +kernel)]; kernel_rfl) | (rw [if_neg (by decide +kernel)]; exact ⟨rfl, rfl⟩))
    (fun os started H enc _ => lifted os started H enc)

end Go.Proofs.YthhdkonpejmgcaaGreatDoor.proxyNil
