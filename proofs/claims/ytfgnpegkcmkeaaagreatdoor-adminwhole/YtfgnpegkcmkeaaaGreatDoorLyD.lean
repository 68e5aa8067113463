/-
  A map with keys of an integer kind, as the kit's laws on maps want it.
-/
import Derived.Test.YtfgnpegkcmkeaaaGreatDoorLyC
set_option linter.unusedSimpArgs false
set_option linter.unusedVariables false
namespace Go.Lx
noncomputable section
open Go.Proofs Go.Maps
open Go.WideElems (Fit rd rg rd_mk rg_of)
open Go.MapKept (Stamped)
open Go.WideShapes (sorted_perm)
end
end Go.Lx
