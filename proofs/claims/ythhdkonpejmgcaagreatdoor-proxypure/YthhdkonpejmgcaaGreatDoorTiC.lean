/-
  The program's types lie as they should: in parts.
-/
import Derived.Test.YthhdkonpejmgcaaGreatDoorRows
namespace Go.Proofs.YthhdkonpejmgcaaGreatDoor.laid
open Go Go.Proofs
set_option maxRecDepth 100000
theorem all_range' {p : Nat → Bool} {a m n : Nat} (h1 : (List.range' a m).all p = true) (h2 : (List.range' (a + m) n).all p = true) : (List.range' a (m + n)).all p = true := by
  rw [← List.range'_append_1, List.all_append, h1, h2]; rfl
theorem sz : Tryz.prog.types.size = 875 := by kernel_rfl
theorem gl : Tryz.prog.globals.all (fun g => decide (g.type < Tryz.prog.types.size)) = true := by kernel_rfl
theorem fu : Tryz.prog.funcs.all (fun f => f.params.all fun t => decide (t < Tryz.prog.types.size)) = true := by kernel_rfl
theorem r0 : (List.range' 0 50).all (rowFine Tryz.prog) = true := by kernel_rfl
theorem r50 : (List.range' 50 50).all (rowFine Tryz.prog) = true := by kernel_rfl
theorem r100 : (List.range' 100 50).all (rowFine Tryz.prog) = true := by kernel_rfl
theorem r150 : (List.range' 150 50).all (rowFine Tryz.prog) = true := by kernel_rfl
theorem r200 : (List.range' 200 50).all (rowFine Tryz.prog) = true := by kernel_rfl
theorem r250 : (List.range' 250 50).all (rowFine Tryz.prog) = true := by kernel_rfl
theorem r300 : (List.range' 300 50).all (rowFine Tryz.prog) = true := by kernel_rfl
theorem r350 : (List.range' 350 50).all (rowFine Tryz.prog) = true := by kernel_rfl
theorem r400 : (List.range' 400 50).all (rowFine Tryz.prog) = true := by kernel_rfl
theorem r450 : (List.range' 450 50).all (rowFine Tryz.prog) = true := by kernel_rfl
theorem r500 : (List.range' 500 50).all (rowFine Tryz.prog) = true := by kernel_rfl
theorem r550 : (List.range' 550 50).all (rowFine Tryz.prog) = true := by kernel_rfl
theorem r600 : (List.range' 600 50).all (rowFine Tryz.prog) = true := by kernel_rfl
theorem r650 : (List.range' 650 50).all (rowFine Tryz.prog) = true := by kernel_rfl
theorem r700 : (List.range' 700 50).all (rowFine Tryz.prog) = true := by kernel_rfl
theorem r750 : (List.range' 750 50).all (rowFine Tryz.prog) = true := by kernel_rfl
theorem r800 : (List.range' 800 50).all (rowFine Tryz.prog) = true := by kernel_rfl
theorem r850 : (List.range' 850 25).all (rowFine Tryz.prog) = true := by kernel_rfl
theorem s800 : (List.range' 800 75).all (rowFine Tryz.prog) = true := @all_range' (rowFine Tryz.prog) 800 50 25 r800 r850
theorem s750 : (List.range' 750 125).all (rowFine Tryz.prog) = true := @all_range' (rowFine Tryz.prog) 750 50 75 r750 s800
theorem s700 : (List.range' 700 175).all (rowFine Tryz.prog) = true := @all_range' (rowFine Tryz.prog) 700 50 125 r700 s750
theorem s650 : (List.range' 650 225).all (rowFine Tryz.prog) = true := @all_range' (rowFine Tryz.prog) 650 50 175 r650 s700
theorem s600 : (List.range' 600 275).all (rowFine Tryz.prog) = true := @all_range' (rowFine Tryz.prog) 600 50 225 r600 s650
theorem s550 : (List.range' 550 325).all (rowFine Tryz.prog) = true := @all_range' (rowFine Tryz.prog) 550 50 275 r550 s600
theorem s500 : (List.range' 500 375).all (rowFine Tryz.prog) = true := @all_range' (rowFine Tryz.prog) 500 50 325 r500 s550
theorem s450 : (List.range' 450 425).all (rowFine Tryz.prog) = true := @all_range' (rowFine Tryz.prog) 450 50 375 r450 s500
theorem s400 : (List.range' 400 475).all (rowFine Tryz.prog) = true := @all_range' (rowFine Tryz.prog) 400 50 425 r400 s450
theorem s350 : (List.range' 350 525).all (rowFine Tryz.prog) = true := @all_range' (rowFine Tryz.prog) 350 50 475 r350 s400
theorem s300 : (List.range' 300 575).all (rowFine Tryz.prog) = true := @all_range' (rowFine Tryz.prog) 300 50 525 r300 s350
theorem s250 : (List.range' 250 625).all (rowFine Tryz.prog) = true := @all_range' (rowFine Tryz.prog) 250 50 575 r250 s300
theorem s200 : (List.range' 200 675).all (rowFine Tryz.prog) = true := @all_range' (rowFine Tryz.prog) 200 50 625 r200 s250
theorem s150 : (List.range' 150 725).all (rowFine Tryz.prog) = true := @all_range' (rowFine Tryz.prog) 150 50 675 r150 s200
theorem s100 : (List.range' 100 775).all (rowFine Tryz.prog) = true := @all_range' (rowFine Tryz.prog) 100 50 725 r100 s150
theorem s50 : (List.range' 50 825).all (rowFine Tryz.prog) = true := @all_range' (rowFine Tryz.prog) 50 50 775 r50 s100
theorem s0 : (List.range' 0 875).all (rowFine Tryz.prog) = true := @all_range' (rowFine Tryz.prog) 0 50 825 r0 s50
theorem laidOut : laidOutB Tryz.prog = true := by
  unfold laidOutB
  rw [gl, fu, sz, List.range_eq_range', s0]
  rfl
end Go.Proofs.YthhdkonpejmgcaaGreatDoor.laid
