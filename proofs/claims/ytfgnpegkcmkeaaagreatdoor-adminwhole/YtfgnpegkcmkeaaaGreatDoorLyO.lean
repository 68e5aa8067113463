/-
  A function of a text that gives a value without an address, and a function of a row of bytes that gives a new row, stand in as what they answer, whatever they are given.
-/
import Derived.Test.YtfgnpegkcmkeaaaGreatDoorLyN
namespace Go.Lx
open Go.Proofs
set_option linter.unusedVariables false
set_option linter.unusedSimpArgs false
noncomputable section
end
end Go.Lx
