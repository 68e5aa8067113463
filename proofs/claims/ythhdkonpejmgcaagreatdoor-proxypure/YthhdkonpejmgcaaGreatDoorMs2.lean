/-
  What stands in behind the calls of height 2.
-/
import Derived.Test.YthhdkonpejmgcaaGreatDoorMsBh
import Derived.Test.YthhdkonpejmgcaaGreatDoorMsBi
import Derived.Test.YthhdkonpejmgcaaGreatDoorMsBj
import Derived.Test.YthhdkonpejmgcaaGreatDoorMsBk
import Derived.Test.YthhdkonpejmgcaaGreatDoorMsBl
namespace Go.Proofs.YthhdkonpejmgcaaGreatDoor.proxyLives
open Go.Proofs Go.Shelf Go.ChangeShapes Go.WideShapes Go.ChangeAt Go.RowKit Go.Lx
set_option linter.unusedVariables false
def kn2_303 : List MemoS := [ms4, ms9, ms16, ms21, ms26]
def kn2_602 : List MemoS := [ms0, ms1, ms2, ms3, ms5, ms6, ms7, ms8, ms12, ms13, ms14, ms15]
def kn2_603 : List MemoS := [ms17, ms18, ms19, ms20, ms22, ms23, ms24, ms25]
noncomputable def exts2 (P : Program) : List (FuncId × (List V → M V)) := [(51, sorted0M 114), (97, sortedM (cfg0 P) 41 360 169 .u32 85), (153, atClosure 254 (sortedM (cfg0 P) 41 254 253 .i64 3) (sortedM (cfg0 P) 41 265 253 .i64 3)), (370, idxM), (524, pureM idxStr), (303, memoSM (callM (cfgM P) 100 303) kn2_303), (602, memoSM (callM (cfgM P) 100 602) kn2_602), (603, memoSM (callM (cfgM P) 100 603) kn2_603)]
noncomputable def cfg2 (P : Program) : Cfg := { P := P, lf := 100000, gl := gl, sum := sums (exts2 P) }
theorem exts2_ok : SumOk (cfg2 Tryz.prog) := by
  refine sumOk_list _ (exts2 Tryz.prog) rfl ?_
  intro p hp
  simp only [exts2, List.mem_cons, List.mem_nil_iff, or_false] at hp
  rcases hp with rfl | rfl | rfl | rfl | rfl | rfl | rfl | rfl
  · exact extSum_sorted0 (cfg0 Tryz.prog) mixed (sumOk_none _ rfl) rfl lay0 rfl e9_0 e6_0 (n := 40) (by kernel_rfl) _
  · exact extSum_sorted (cfg0 Tryz.prog) mixed (sumOk_none _ rfl) rfl lay1 rfl (by kernel_rfl) e9_1 e6_1 (by decide) (n := 40) (by kernel_rfl) _
  · exact extSum_at (extSum_sorted (cfg0 Tryz.prog) mixed (sumOk_none _ rfl) rfl lay2 rfl (by kernel_rfl) e9_2 e6_2 (by decide) (n := 40) (by kernel_rfl) _) (extSum_sorted (cfg0 Tryz.prog) mixed (sumOk_none _ rfl) rfl lay3 rfl (by kernel_rfl) e9_3 e6_3 (by decide) (n := 40) (by kernel_rfl) _)
  · exact extSum_idx Tryz.func370 (by kernel_rfl) (by kernel_rfl) (by kernel_rfl) (by kernel_rfl)
  · exact extSum_pure Tryz.func524 (by kernel_rfl) (by kernel_rfl) (by kernel_rfl) (by kernel_rfl) (e := Extern.BytealgIndexByte.indexByte) idxStr_ok
  · exact extSum_memoS mixed (extSum_call (cfgM Tryz.prog) mixed extsM_ok rfl 100 303) (List.forall_mem_cons.2 ⟨ms4_ok, List.forall_mem_cons.2 ⟨ms9_ok, List.forall_mem_cons.2 ⟨ms16_ok, List.forall_mem_cons.2 ⟨ms21_ok, List.forall_mem_cons.2 ⟨ms26_ok, fun _ h => nomatch h⟩⟩⟩⟩⟩)
  · exact extSum_memoS mixed (extSum_call (cfgM Tryz.prog) mixed extsM_ok rfl 100 602) (List.forall_mem_cons.2 ⟨ms0_ok, List.forall_mem_cons.2 ⟨ms1_ok, List.forall_mem_cons.2 ⟨ms2_ok, List.forall_mem_cons.2 ⟨ms3_ok, List.forall_mem_cons.2 ⟨ms5_ok, List.forall_mem_cons.2 ⟨ms6_ok, List.forall_mem_cons.2 ⟨ms7_ok, List.forall_mem_cons.2 ⟨ms8_ok, List.forall_mem_cons.2 ⟨ms12_ok, List.forall_mem_cons.2 ⟨ms13_ok, List.forall_mem_cons.2 ⟨ms14_ok, List.forall_mem_cons.2 ⟨ms15_ok, fun _ h => nomatch h⟩⟩⟩⟩⟩⟩⟩⟩⟩⟩⟩⟩)
  · exact extSum_memoS mixed (extSum_call (cfgM Tryz.prog) mixed extsM_ok rfl 100 603) (List.forall_mem_cons.2 ⟨ms17_ok, List.forall_mem_cons.2 ⟨ms18_ok, List.forall_mem_cons.2 ⟨ms19_ok, List.forall_mem_cons.2 ⟨ms20_ok, List.forall_mem_cons.2 ⟨ms22_ok, List.forall_mem_cons.2 ⟨ms23_ok, List.forall_mem_cons.2 ⟨ms24_ok, List.forall_mem_cons.2 ⟨ms25_ok, fun _ h => nomatch h⟩⟩⟩⟩⟩⟩⟩⟩)
end Go.Proofs.YthhdkonpejmgcaaGreatDoor.proxyLives
