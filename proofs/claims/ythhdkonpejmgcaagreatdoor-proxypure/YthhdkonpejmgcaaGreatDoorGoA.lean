/-
  No function of the program starts another beside itself; the numbers of the two laws.
-/
import Derived.Test.YthhdkonpejmgcaaGreatDoorRows
import Derived.KernelRfl
import Derived.SevenTiedAt
namespace Go.Proofs.YthhdkonpejmgcaaGreatDoor
open Go Go.Proofs
set_option linter.unusedVariables false
set_option maxRecDepth 100000
theorem noneGoes : Tryz.prog.funcs.toList.any Func.goes = false := by kernel_rfl
theorem goes_none {P : Program} (h : P.funcs.toList.any Func.goes = false) (f : FuncId) : P.goes f = false := by
  have h2 : P.funcs.any Func.goes = false := by rw [← Array.any_toList]; exact h
  have h3 : ∀ g : Nat, (P.funcs[g]?).any Func.goes = false := fun g => by
    cases hg : P.funcs[g]? with
    | none => rfl
    | some x =>
      have hm : x ∈ P.funcs.toList := by
        have := Array.mem_of_getElem? hg
        simpa using this
      show x.goes = false
      cases hx : x.goes
      · rfl
      · rw [List.any_eq_true.2 ⟨x, hm, hx⟩] at h; cases h
  unfold Program.goes
  rw [h2, Bool.and_false, Bool.or_false]
  exact List.any_eq_false.2 fun g _ => by rw [h3 g]; simp
theorem goesBy_none {P : Program} {c : OpenClaim} {f : FuncId} (hs : c.start = .entering) (hn : P.funcNamed c.func = some f) (h : P.funcs.toList.any Func.goes = false) : false = c.goesBy P := by
  unfold OpenClaim.goesBy Program.goesAt Program.goesFrom
  rw [hn, hs]
  show false = (P.goes f || false)
  rw [goes_none h, Bool.or_false]
theorem namedNames : Tryz.prog.funcNamed "sluicegate/sluicegatelaw31.ProxyNames" = some 3 := by kernel_rfl
theorem namedNil : Tryz.prog.funcNamed "sluicegate/sluicegatelaw31.ProxyNil" = some 4 := by kernel_rfl
theorem goesNames : false = Rows.proxyNamesRow.goesBy Tryz.prog := goesBy_none (f := 3) rfl namedNames noneGoes
theorem goesNil : false = Rows.proxyNilRow.goesBy Tryz.prog := goesBy_none (f := 4) rfl namedNil noneGoes
end Go.Proofs.YthhdkonpejmgcaaGreatDoor
