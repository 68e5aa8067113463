/-
  A struct that came in, with a row of texts: what its cells are.
-/
import Derived.Test.YtfgnpegkcmkeaaaGreatDoorLyM
import Derived.ChangeShapes
namespace Go.Lx
open Go.Proofs
set_option linter.unusedVariables false
set_option linter.unusedSimpArgs false
section
variable {H : Type} {enc : TypeId × Value → H} {P : Program} {w : World} {spare : Nat → Bool} {held : Bool}
end
end Go.Lx
