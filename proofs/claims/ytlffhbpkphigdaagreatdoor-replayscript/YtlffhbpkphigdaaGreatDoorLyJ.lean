/-
  utf8.DecodeRuneInString stands in at every text, by the shelf's contract; its table of pairs as a row lists it.
-/
import Derived.Test.YtlffhbpkphigdaaGreatDoorLyI
import Derived.Shelf.Unicode.DecodeAny
set_option linter.unusedSimpArgs false
set_option linter.unusedVariables false
namespace Go.Lx
noncomputable section
open Go.ChangeShapes Go.WideShapes Go.ChangeAt Go.RowKit Go.Proofs Go.Shelf
end
end Go.Lx
