/-
  What stands in for the sorts, and for the responses to known nonces.
-/
import Derived.Test.YthhdkonpejmgcaaGreatDoorRows
import Derived.Test.YthhdkonpejmgcaaGreatDoorCards
import Derived.Test.YthhdkonpejmgcaaGreatDoorLy2
import Derived.Test.YthhdkonpejmgcaaGreatDoorLy3
import Derived.SevenTiedAt
import Derived.Stop.Joined
namespace Go.Proofs.YthhdkonpejmgcaaGreatDoor.proxyLives
open Go.Proofs Go.Shelf Go.ChangeShapes Go.WideShapes Go.ChangeAt Go.RowKit Go.Lx
set_option linter.unusedVariables false

theorem own : ownKnob Tryz.prog.godebug = none := by kernel_rfl
theorem mixed : Tryz.prog.follows .mixedOrders = true := Checked.mixed Tryz.checked

def cfg0 (P : Program) : Cfg := { P := P, lf := 100000, gl := .leaf, sum := fun _ => none }

def ρ0 : Go.Shelf.Ren := ⟨fun n => match n with | 6 => 51 | 8 => 112 | 9 => 113 | 10 => 114 | 11 => 179 | _ => 0, fun n => match n with | 0 => 0 | 3 => 3 | 4 => 4 | 23 => 47 | 24 => 36 | 26 => 9 | 28 => 127 | 33 => 154 | _ => 0, fun n => n⟩

theorem lay0 : KeyLay0 Tryz.prog ρ0 where
  mixed := mixed
  f6 := ⟨ "slices.Sorted[string]", by kernel_rfl, by kernel_rfl⟩
  f8 := ⟨ "slices.Collect[string]", by kernel_rfl, by kernel_rfl⟩
  f10 := ⟨ "maps.Keys[map[string]int,string,int]$1", by kernel_rfl, by kernel_rfl⟩
  f11 := ⟨ "slices.AppendSeq[[]string,string]", by kernel_rfl, by kernel_rfl⟩
  t0 := by kernel_rfl
  a0 := fun w => by kernel_rfl
  z0 := fun w => by kernel_rfl
  v0 := fun w => by kernel_rfl
  t4 := by kernel_rfl
  a4 := fun w => by kernel_rfl
  z4 := fun w => by kernel_rfl
  v4 := fun w => by kernel_rfl
  t23 := by kernel_rfl
  a23 := fun w => by kernel_rfl
  z23 := fun w => by kernel_rfl
  v23 := fun w => by kernel_rfl
  t24 := by kernel_rfl
  a24 := fun w => by kernel_rfl
  z24 := fun w => by kernel_rfl
  v24 := fun w => by kernel_rfl
  t26 := by kernel_rfl
  a26 := fun w => by kernel_rfl
  z26 := fun w => by kernel_rfl
  v26 := fun w => by kernel_rfl
  t28 := by kernel_rfl
  a28 := fun w => by kernel_rfl
  z28 := fun w => by kernel_rfl
  v28 := fun w => by kernel_rfl
  t33 := by kernel_rfl
  a33 := fun w => by kernel_rfl
  z33 := fun w => by kernel_rfl
  v33 := fun w => by kernel_rfl
  i26 := by kernel_rfl

theorem e9_0 : Go.Proofs.Enters Tryz.prog (ρ0.f 9) := Go.Proofs.enters_of Tryz.func113 (by kernel_rfl) (by first | rfl | kernel_rfl)
theorem e6_0 : Go.Proofs.Enters Tryz.prog (ρ0.f 6) := Go.Proofs.enters_of Tryz.func51 (by kernel_rfl) (by first | rfl | kernel_rfl)

def ρ1 : Go.Shelf.Ren := ⟨fun n => match n with | 6 => 97 | 8 => 168 | 9 => 169 | 10 => 360 | 11 => 263 | _ => 0, fun n => match n with | 0 => 0 | 3 => 302 | 4 => 4 | 23 => 371 | 24 => 189 | 26 => 85 | 28 => 192 | 33 => 292 | _ => 0, fun n => n⟩

theorem lay1 : KeyLay Tryz.prog ρ1 .u32 4 where
  mixed := mixed
  f6 := ⟨ "slices.Sorted[uint32]", by kernel_rfl, by kernel_rfl⟩
  f8 := ⟨ "slices.Collect[uint32]", by kernel_rfl, by kernel_rfl⟩
  f10 := ⟨ "maps.Keys[map[uint32]*sluicegate/api.Stmt,uint32,*sluicegate/api.Stmt]$1", by kernel_rfl, by kernel_rfl⟩
  f11 := ⟨ "slices.AppendSeq[[]uint32,uint32]", by kernel_rfl, by kernel_rfl⟩
  t0 := by kernel_rfl
  a0 := fun w => by kernel_rfl
  z0 := fun w => by kernel_rfl
  v0 := fun w => by kernel_rfl
  t4 := by kernel_rfl
  a4 := fun w => by kernel_rfl
  z4 := fun w => by kernel_rfl
  v4 := fun w => by kernel_rfl
  t23 := by kernel_rfl
  a23 := fun w => by kernel_rfl
  z23 := fun w => by kernel_rfl
  v23 := fun w => by kernel_rfl
  t24 := by kernel_rfl
  a24 := fun w => by kernel_rfl
  z24 := fun w => by kernel_rfl
  v24 := fun w => by kernel_rfl
  t26 := by kernel_rfl
  a26 := fun w => by kernel_rfl
  z26 := fun w => by kernel_rfl
  v26 := fun w => by kernel_rfl
  t28 := by kernel_rfl
  a28 := fun w => by kernel_rfl
  z28 := fun w => by kernel_rfl
  v28 := fun w => by kernel_rfl
  t33 := by kernel_rfl
  a33 := fun w => by kernel_rfl
  z33 := fun w => by kernel_rfl
  v33 := fun w => by kernel_rfl
  i26 := by kernel_rfl

theorem e9_1 : Go.Proofs.Enters Tryz.prog (ρ1.f 9) := Go.Proofs.enters_of Tryz.func169 (by kernel_rfl) (by first | rfl | kernel_rfl)
theorem e6_1 : Go.Proofs.Enters Tryz.prog (ρ1.f 6) := Go.Proofs.enters_of Tryz.func97 (by kernel_rfl) (by first | rfl | kernel_rfl)

def ρ2 : Go.Shelf.Ren := ⟨fun n => match n with | 6 => 153 | 8 => 252 | 9 => 253 | 10 => 254 | 11 => 339 | _ => 0, fun n => match n with | 0 => 0 | 3 => 103 | 4 => 4 | 23 => 46 | 24 => 278 | 26 => 3 | 28 => 281 | 33 => 31 | _ => 0, fun n => n⟩

theorem lay2 : KeyLay Tryz.prog ρ2 .i64 8 where
  mixed := mixed
  f6 := ⟨ "slices.Sorted[int]", by kernel_rfl, by kernel_rfl⟩
  f8 := ⟨ "slices.Collect[int]", by kernel_rfl, by kernel_rfl⟩
  f10 := ⟨ "maps.Keys[map[int]*sluicegate/proxy.line,int,*sluicegate/proxy.line]$1", by kernel_rfl, by kernel_rfl⟩
  f11 := ⟨ "slices.AppendSeq[[]int,int]", by kernel_rfl, by kernel_rfl⟩
  t0 := by kernel_rfl
  a0 := fun w => by kernel_rfl
  z0 := fun w => by kernel_rfl
  v0 := fun w => by kernel_rfl
  t4 := by kernel_rfl
  a4 := fun w => by kernel_rfl
  z4 := fun w => by kernel_rfl
  v4 := fun w => by kernel_rfl
  t23 := by kernel_rfl
  a23 := fun w => by kernel_rfl
  z23 := fun w => by kernel_rfl
  v23 := fun w => by kernel_rfl
  t24 := by kernel_rfl
  a24 := fun w => by kernel_rfl
  z24 := fun w => by kernel_rfl
  v24 := fun w => by kernel_rfl
  t26 := by kernel_rfl
  a26 := fun w => by kernel_rfl
  z26 := fun w => by kernel_rfl
  v26 := fun w => by kernel_rfl
  t28 := by kernel_rfl
  a28 := fun w => by kernel_rfl
  z28 := fun w => by kernel_rfl
  v28 := fun w => by kernel_rfl
  t33 := by kernel_rfl
  a33 := fun w => by kernel_rfl
  z33 := fun w => by kernel_rfl
  v33 := fun w => by kernel_rfl
  i26 := by kernel_rfl

theorem e9_2 : Go.Proofs.Enters Tryz.prog (ρ2.f 9) := Go.Proofs.enters_of Tryz.func253 (by kernel_rfl) (by first | rfl | kernel_rfl)
theorem e6_2 : Go.Proofs.Enters Tryz.prog (ρ2.f 6) := Go.Proofs.enters_of Tryz.func153 (by kernel_rfl) (by first | rfl | kernel_rfl)

def ρ3 : Go.Shelf.Ren := ⟨fun n => match n with | 6 => 153 | 8 => 252 | 9 => 253 | 10 => 265 | 11 => 339 | _ => 0, fun n => match n with | 0 => 0 | 3 => 221 | 4 => 4 | 23 => 216 | 24 => 278 | 26 => 3 | 28 => 281 | 33 => 31 | _ => 0, fun n => n⟩

theorem lay3 : KeyLay Tryz.prog ρ3 .i64 8 where
  mixed := mixed
  f6 := ⟨ "slices.Sorted[int]", by kernel_rfl, by kernel_rfl⟩
  f8 := ⟨ "slices.Collect[int]", by kernel_rfl, by kernel_rfl⟩
  f10 := ⟨ "maps.Keys[map[int]*sluicegate/api.Conn,int,*sluicegate/api.Conn]$1", by kernel_rfl, by kernel_rfl⟩
  f11 := ⟨ "slices.AppendSeq[[]int,int]", by kernel_rfl, by kernel_rfl⟩
  t0 := by kernel_rfl
  a0 := fun w => by kernel_rfl
  z0 := fun w => by kernel_rfl
  v0 := fun w => by kernel_rfl
  t4 := by kernel_rfl
  a4 := fun w => by kernel_rfl
  z4 := fun w => by kernel_rfl
  v4 := fun w => by kernel_rfl
  t23 := by kernel_rfl
  a23 := fun w => by kernel_rfl
  z23 := fun w => by kernel_rfl
  v23 := fun w => by kernel_rfl
  t24 := by kernel_rfl
  a24 := fun w => by kernel_rfl
  z24 := fun w => by kernel_rfl
  v24 := fun w => by kernel_rfl
  t26 := by kernel_rfl
  a26 := fun w => by kernel_rfl
  z26 := fun w => by kernel_rfl
  v26 := fun w => by kernel_rfl
  t28 := by kernel_rfl
  a28 := fun w => by kernel_rfl
  z28 := fun w => by kernel_rfl
  v28 := fun w => by kernel_rfl
  t33 := by kernel_rfl
  a33 := fun w => by kernel_rfl
  z33 := fun w => by kernel_rfl
  v33 := fun w => by kernel_rfl
  i26 := by kernel_rfl

theorem e9_3 : Go.Proofs.Enters Tryz.prog (ρ3.f 9) := Go.Proofs.enters_of Tryz.func253 (by kernel_rfl) (by first | rfl | kernel_rfl)
theorem e6_3 : Go.Proofs.Enters Tryz.prog (ρ3.f 6) := Go.Proofs.enters_of Tryz.func153 (by kernel_rfl) (by first | rfl | kernel_rfl)

noncomputable def gl : T (List V) := .leaf
noncomputable def extsM (P : Program) : List (FuncId × (List V → M V)) := [(51, sorted0M 114), (97, sortedM (cfg0 P) 41 360 169 .u32 85), (153, atClosure 254 (sortedM (cfg0 P) 41 254 253 .i64 3) (sortedM (cfg0 P) 41 265 253 .i64 3)), (370, idxM), (524, pureM idxStr)]
noncomputable def cfgM (P : Program) : Cfg := { P := P, lf := 100000, gl := gl, sum := sums (extsM P) }

theorem extsM_ok : SumOk (cfgM Tryz.prog) := by
  refine sumOk_list _ (extsM Tryz.prog) rfl ?_
  intro p hp
  simp only [extsM, List.mem_cons, List.mem_nil_iff, or_false] at hp
  rcases hp with rfl | rfl | rfl | rfl | rfl
  · exact extSum_sorted0 (cfg0 Tryz.prog) mixed (sumOk_none _ rfl) rfl lay0 rfl e9_0 e6_0 (n := 40) (by kernel_rfl) _
  · exact extSum_sorted (cfg0 Tryz.prog) mixed (sumOk_none _ rfl) rfl lay1 rfl (by kernel_rfl) e9_1 e6_1 (by decide) (n := 40) (by kernel_rfl) _
  · exact extSum_at (extSum_sorted (cfg0 Tryz.prog) mixed (sumOk_none _ rfl) rfl lay2 rfl (by kernel_rfl) e9_2 e6_2 (by decide) (n := 40) (by kernel_rfl) _) (extSum_sorted (cfg0 Tryz.prog) mixed (sumOk_none _ rfl) rfl lay3 rfl (by kernel_rfl) e9_3 e6_3 (by decide) (n := 40) (by kernel_rfl) _)
  · exact extSum_idx Tryz.func370 (by kernel_rfl) (by kernel_rfl) (by kernel_rfl) (by kernel_rfl)
  · exact extSum_pure Tryz.func524 (by kernel_rfl) (by kernel_rfl) (by kernel_rfl) (by kernel_rfl) (e := Extern.BytealgIndexByte.indexByte) idxStr_ok
end Go.Proofs.YthhdkonpejmgcaaGreatDoor.proxyLives
