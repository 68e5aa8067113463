/-
  A call on known arguments that gives one new row: the row stands in (as LyH's memo, its result the row alone).
-/
import Derived.Test.YtlffhbpkphigdaaGreatDoorLyJ
namespace Go.Lx
open Go.Proofs
set_option linter.unusedVariables false
noncomputable section
structure Memo1 where
  args : List V
  len : Nat
  cells : List V
  elem : TypeId
  opn : Bool
end
end Go.Lx
