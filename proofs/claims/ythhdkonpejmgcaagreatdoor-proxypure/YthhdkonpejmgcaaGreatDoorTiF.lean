/-
  Several texts, joined.
-/
import Derived.Test.YthhdkonpejmgcaaGreatDoorTiA
import Derived.LaidByTextLater
import Derived.SevenTiedAt
import Derived.LaidSub
import Derived.LaidOnce
/-
  The program's tie: its variables, each by itself.
-/
namespace Go.Proofs.YthhdkonpejmgcaaGreatDoor.ties
open Go Go.Proofs
set_option maxRecDepth 100000
theorem hd : ∀ os tape, varsDone Tryz.prog 101 821 os tape = true := fun _ _ => by kernel_rfl
end Go.Proofs.YthhdkonpejmgcaaGreatDoor.ties

/-
  The program's tie: its variables, each by itself.
-/
namespace Go.Proofs.YthhdkonpejmgcaaGreatDoor.ties
open Go Go.Proofs
set_option maxRecDepth 100000
theorem h1 : ∀ os tape, (DataW.laidRun Tryz.prog (varsWorld Tryz.prog 101 821 os tape).memory 8 (laidAll.map (·.1))).map (·.1) = some laidAll := fun _ _ => by kernel_rfl
end Go.Proofs.YthhdkonpejmgcaaGreatDoor.ties
