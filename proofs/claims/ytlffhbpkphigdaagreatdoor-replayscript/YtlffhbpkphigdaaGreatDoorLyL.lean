/-
  Several calls on known arguments, each of which gives one new row: the rows stand in.
-/
import Derived.Test.YtlffhbpkphigdaaGreatDoorLyK
namespace Go.Lx
open Go.Proofs
set_option linter.unusedVariables false
noncomputable section
end
end Go.Lx
