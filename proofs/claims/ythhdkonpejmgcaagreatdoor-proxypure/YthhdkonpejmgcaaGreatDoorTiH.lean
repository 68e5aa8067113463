/-
  The program's tie: its variables, each by itself.
-/
import Derived.Test.YthhdkonpejmgcaaGreatDoorTiA
import Derived.LaidByTextLater
import Derived.SevenTiedAt
import Derived.LaidSub
import Derived.LaidOnce
namespace Go.Proofs.YthhdkonpejmgcaaGreatDoor.ties
open Go Go.Proofs
set_option maxRecDepth 100000
theorem h2 : ∀ os tape, (DataW.laidRun Tryz.prog (varsWorld Tryz.prog 101 821 os tape).memory 8 (laidAll.map (·.1))).map (fun x => decide x.2.Nodup && laidRowsB Tryz.prog (varsWorld Tryz.prog 101 821 os tape).memory x.2) = some true := fun _ _ => by kernel_rfl
end Go.Proofs.YthhdkonpejmgcaaGreatDoor.ties
