/-
  VerdictNames: the card of the row.
-/
import Derived.Test.YtgndobokolodfaaGreatDoorNamesA
import Derived.Test.YtgndobokolodfaaGreatDoorRows
import Derived.Test.YtgndobokolodfaaGreatDoorTie
import Derived.Test.YtgndobokolodfaaGreatDoorCards
import Derived.Test.YtgndobokolodfaaGreatDoorLyH
import Derived.Test.YtgndobokolodfaaGreatDoorLyW
import Derived.SevenTiedAt
import Derived.Stop.Joined
namespace Go.Proofs.YtgndobokolodfaaGreatDoor.verdictNames
open Go.Proofs Go.Shelf Go.ChangeShapes Go.WideShapes Go.ChangeAt Go.RowKit Go.Lx
set_option linter.unusedVariables false

theorem noneGoes : Tryz.prog.funcs.toList.any Func.goes = false := by kernel_rfl
theorem named3 : Tryz.prog.funcNamed "sluicegate/sluicegatelaw32.VerdictNames" = some 3 := by kernel_rfl
theorem goes_none {P : Program} (h : P.funcs.toList.any Func.goes = false) (f : FuncId) : P.goes f = false := by
  have h2 : P.funcs.any Func.goes = false := by rw [← Array.any_toList]; exact h
  have h3 : ∀ g : Nat, (P.funcs[g]?).any Func.goes = false := fun g => by
    cases hg : P.funcs[g]? with
    | none => rfl
    | some x =>
      have hm : x ∈ P.funcs.toList := by
        have := Array.mem_of_getElem? hg
        simpa using this
      show x.goes = false
      cases hx : x.goes
      · rfl
      · rw [List.any_eq_true.2 ⟨x, hm, hx⟩] at h; cases h
  unfold Program.goes
  rw [h2, Bool.and_false, Bool.or_false]
  exact List.any_eq_false.2 fun g _ => by rw [h3 g]; simp
theorem goesBy_none {P : Program} {c : OpenClaim} {f : FuncId} (hs : c.start = .entering) (hn : P.funcNamed c.func = some f) (h : P.funcs.toList.any Func.goes = false) : false = c.goesBy P := by
  unfold OpenClaim.goesBy Program.goesAt Program.goesFrom
  rw [hn, hs]
  show false = (P.goes f || false)
  rw [goes_none h, Bool.or_false]
theorem goes : false = Rows.verdictNamesRow.goesBy Tryz.prog := goesBy_none (f := 3) rfl named3 noneGoes

/-- THE STATEMENT -/
theorem proved : Rows.VerdictNamesCardSaid :=
  Claim7.holds_tied_plain_at .later [] [.data, .data, .data, .data, .listed, .data, .pinned] true (true, "5c299ee98b06d514865a3f19f743459a0b7810764961fa7b8039d3ad13cc7292") false over (fun _ h => by cases h) (by as_aux_lemma => kernel_rfl) (fun _ h => by cases h) verdictNames_row_tie rfl ⟨rfl, rfl⟩ (by as_aux_lemma => kernel_rfl) rfl
    (fun f fn hf hfn => by
      obtain rfl : f = 3 := Option.some.inj ((show Tryz.prog.funcNamed "sluicegate/sluicegatelaw32.VerdictNames" = some 3 by kernel_rfl).symm.trans hf) |>.symm
      obtain rfl : fn = Tryz.f3 := (Option.some.inj (Tryz.func3.symm.trans hfn)).symm
      exact ⟨by kernel_rfl, fun j t ht => by
        rw [Tryz.params3] at ht
        simp at ht⟩)
    goes
end Go.Proofs.YtgndobokolodfaaGreatDoor.verdictNames
