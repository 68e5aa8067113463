/-
  Several texts, joined.
-/
import Derived.Test.YthhdkonpejmgcaaGreatDoorPureA
import Derived.Test.YthhdkonpejmgcaaGreatDoorPureC
import Derived.Test.YthhdkonpejmgcaaGreatDoorTiJ
import Derived.Test.YthhdkonpejmgcaaGreatDoorGoA
import Derived.SevenTiedAt
import Derived.KernelRfl
/-
  The statement of the row.
-/
namespace Go.Proofs.YthhdkonpejmgcaaGreatDoor.proxyPure
open Go.Proofs Go.Shelf Go.ChangeShapes Go.WideShapes Go.ChangeAt Go.RowKit Go.Lx Go.Proofs.YthhdkonpejmgcaaGreatDoor.proxyLives
set_option linter.unusedVariables false
theorem over : Rows.ProxyPureSaid :=
  OpenClaim.holds_of_wide 5 Tryz.f5 rfl rfl rfl rfl rfl rfl rfl ⟨rfl, rfl, rfl, rfl, rfl⟩ rfl rfl rfl rfl rfl (by kernel_rfl) Tryz.func5 closed
    (of_decide_eq_true (by kernel_rfl)) (by unfold Func.isWrapper; first | (rw [if_pos (by decide +kernel)]; kernel_rfl) | (rw [if_neg (by decide +kernel)]; exact ⟨rfl, rfl⟩))
    (fun os started H enc _ => lifted os started H enc)

end Go.Proofs.YthhdkonpejmgcaaGreatDoor.proxyPure

/-
  ProxyPure's row: its tie, its form, its number.
-/
namespace Go.Proofs.YthhdkonpejmgcaaGreatDoor
open Go Go.Proofs
set_option linter.unusedVariables false
set_option maxRecDepth 100000
theorem proxyPure_row_tie : Rows.proxyPureRow.laidByTextAt .later Tryz.pinned [.data, .data, .data, .data, .sentinel, .sentinel, .listed, .data, .data, .pinned] true :=
  OpenClaim.laidByTextAt_pinned rfl rfl tie rfl rfl rfl rfl (fun y hy _e => by
    simp only [Rows.proxyPureRow, List.zip_cons_cons, List.zip_nil_right, List.mem_cons, List.mem_nil_iff, or_false] at hy
    rcases hy with rfl | rfl | rfl | rfl | rfl | rfl | rfl | rfl | rfl | rfl
    · cases _e
    · cases _e
    · cases _e
    · cases _e
    · cases _e
    · cases _e
    · cases _e
    · cases _e
    · cases _e
    · exact ⟨pin_laid_unicode_utf8_first, by kernel_rfl⟩) fits1
theorem c_wfPure : Rows.proxyPureRow.wfByText (OpenSpec.ofChange Rows.proxyPureSpec) = true := by kernel_rfl
theorem namedPure : Tryz.prog.funcNamed "sluicegate/sluicegatelaw31.ProxyPure" = some 5 := by kernel_rfl
theorem goesPure : false = Rows.proxyPureRow.goesBy Tryz.prog := goesBy_none (f := 5) rfl namedPure noneGoes
theorem standPure : ([42, 35].all fun u => !Tryz.prog.wantsStandIn u) = true := by kernel_rfl
end Go.Proofs.YthhdkonpejmgcaaGreatDoor
