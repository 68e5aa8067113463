/-
  slices.Sorted over maps.Keys, the keys of an integer kind.
-/
import Derived.Test.YtfgnpegkcmkeaaaGreatDoorLyB
set_option linter.unusedSimpArgs false
set_option linter.unusedVariables false
namespace Go.Proofs
open Go.RowKit Go.Maps Go.Sort Go.Shelf
variable {P : Program} {ρ : Ren} {kd : IntKind} {bs : Nat}
end Go.Proofs
