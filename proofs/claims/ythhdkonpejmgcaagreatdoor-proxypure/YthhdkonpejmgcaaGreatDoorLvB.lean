/-
  The chapter's first example, run by itself over the known calls: it stands in for its call.
-/
import Derived.Test.YthhdkonpejmgcaaGreatDoorMs4
import Derived.Test.YthhdkonpejmgcaaGreatDoorTiC
namespace Go.Proofs.YthhdkonpejmgcaaGreatDoor.proxyLives
open Go.Proofs Go.Shelf Go.ChangeShapes Go.WideShapes Go.ChangeAt Go.RowKit Go.Lx
set_option linter.unusedVariables false
theorem laidOut : laidOutB Tryz.prog = true := laid.laidOut
theorem livesRun : yes (callM (cfg4 Tryz.prog) 100 7 [] st0) = true := by kernel_rfl
theorem eLives : Go.Proofs.Enters Tryz.prog 7 := Go.Proofs.enters_of Tryz.func7 (by kernel_rfl) (by first | rfl | kernel_rfl)
theorem lives_true : ExtSum Tryz.prog gl 7 constTrue := extSum_true (cfg4 Tryz.prog) mixed exts4_ok livesRun rfl eLives rfl
def inM : List MemoS := [ms11]
noncomputable def exts (P : Program) : List (FuncId × (List V → M V)) := [(7, constTrue), (51, sorted0M 114), (97, sortedM (cfg0 P) 41 360 169 .u32 85), (153, atClosure 254 (sortedM (cfg0 P) 41 254 253 .i64 3) (sortedM (cfg0 P) 41 265 253 .i64 3)), (370, idxM), (524, pureM idxStr), (6, memoSM (fun _ => err "in") inM)]
noncomputable def cfg (P : Program) : Cfg := { P := P, lf := 100000, gl := gl, sum := sums (exts P) }

theorem exts_ok : SumOk (cfg Tryz.prog) := by
  refine sumOk_list _ (exts Tryz.prog) rfl ?_
  intro p hp
  simp only [exts, List.mem_cons, List.mem_nil_iff, or_false] at hp
  rcases hp with rfl | rfl | rfl | rfl | rfl | rfl | rfl
  · exact lives_true
  · exact extSum_sorted0 (cfg0 Tryz.prog) mixed (sumOk_none _ rfl) rfl lay0 rfl e9_0 e6_0 (n := 40) (by kernel_rfl) _
  · exact extSum_sorted (cfg0 Tryz.prog) mixed (sumOk_none _ rfl) rfl lay1 rfl (by kernel_rfl) e9_1 e6_1 (by decide) (n := 40) (by kernel_rfl) _
  · exact extSum_at (extSum_sorted (cfg0 Tryz.prog) mixed (sumOk_none _ rfl) rfl lay2 rfl (by kernel_rfl) e9_2 e6_2 (by decide) (n := 40) (by kernel_rfl) _) (extSum_sorted (cfg0 Tryz.prog) mixed (sumOk_none _ rfl) rfl lay3 rfl (by kernel_rfl) e9_3 e6_3 (by decide) (n := 40) (by kernel_rfl) _)
  · exact extSum_idx Tryz.func370 (by kernel_rfl) (by kernel_rfl) (by kernel_rfl) (by kernel_rfl)
  · exact extSum_pure Tryz.func524 (by kernel_rfl) (by kernel_rfl) (by kernel_rfl) (by kernel_rfl) (e := Extern.BytealgIndexByte.indexByte) idxStr_ok
  · exact extSum_memoS mixed extSum_err (List.forall_mem_cons.2 ⟨ms11_ok, fun _ h => nomatch h⟩)
end Go.Proofs.YthhdkonpejmgcaaGreatDoor.proxyLives
