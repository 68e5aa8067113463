/-
  A function of a struct of a number, a row of texts and a number, that writes nothing but what is its own, stands in as what it answers.
-/
import Derived.Test.YtfgnpegkcmkeaaaGreatDoorLyL
namespace Go.Lx
open Go.Proofs
set_option linter.unusedVariables false
set_option linter.unusedSimpArgs false
noncomputable section
end
end Go.Lx
