/-
  What slices.Sort makes of a slice of integers, run by the machine on every order of the keys.
-/
import Derived.Test.YtfgnpegkcmkeaaaGreatDoorLxZ
import Derived.Test.YtfgnpegkcmkeaaaGreatDoorLyA
set_option linter.unusedSimpArgs false
set_option linter.unusedVariables false
namespace Go.Lx
noncomputable section
end
end Go.Lx
