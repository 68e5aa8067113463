/-
  A call that was run by itself, on arguments without an address: what it gave may stand in for it: a value without an address, or one with one new row of such values.
-/
import Derived.Test.YtinbhlejofgomaaGreatLyG
set_option linter.unusedSimpArgs false
set_option linter.unusedVariables false
namespace Go.Lx
open Go.Shelf Go.Proofs
noncomputable section
section
variable {μ μ' : Mu} {ν : Nat → Value}
end
structure Memo where
 args : List V
 len : Nat
 cells : List V
 elem : TypeId
 rest : List V
end
end Go.Lx
