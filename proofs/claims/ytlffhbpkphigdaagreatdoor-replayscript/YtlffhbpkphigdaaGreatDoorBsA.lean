/-
  Several texts of one walk, joined.
-/
import Derived.Test.YtlffhbpkphigdaaGreatDoorProg
import Derived.Test.YtlffhbpkphigdaaGreatDoorWxZ
import Derived.Test.YtlffhbpkphigdaaGreatDoorLxZ
set_option linter.defProp false
set_option linter.unusedSimpArgs false
set_option linter.unusedVariables false
namespace Go.Proofs.YtlffhbpkphigdaaGreatDoor
open Go.Proofs Go.Lx Go.Wx
noncomputable section
theorem ty25 : tyR Tryz.prog 25 = some (7, true) := by kernel_rfl
theorem ps37 : ptrSz Tryz.prog 37 = true := by kernel_rfl
theorem ps40 : ptrSz Tryz.prog 40 = true := by kernel_rfl
-- eq on type 4
theorem ia28 (k o n m : Nat) (kd : IntKind) (i : Int) : indexAddrV Tryz.prog 28 (.slice k o n m) (.int kd i) = if 0 ≤ i ∧ i < n then some (.ptr k (o + i.toNat * 1)) else none := indexAddr_slice (e := 43) (by kernel_rfl) (by kernel_rfl) k o n m kd i
theorem ty43 : tyR Tryz.prog 43 = some (1, false) := by kernel_rfl
theorem ia29 (k o n m : Nat) (kd : IntKind) (i : Int) : indexAddrV Tryz.prog 29 (.slice k o n m) (.int kd i) = if 0 ≤ i ∧ i < n then some (.ptr k (o + i.toNat * 1)) else none := indexAddr_slice (e := 4) (by kernel_rfl) (by kernel_rfl) k o n m kd i
theorem ty4 : tyR Tryz.prog 4 = some (1, false) := by kernel_rfl
theorem ia32 (k o n m : Nat) (kd : IntKind) (i : Int) : indexAddrV Tryz.prog 32 (.slice k o n m) (.int kd i) = if 0 ≤ i ∧ i < n then some (.ptr k (o + i.toNat * 8)) else none := indexAddr_slice (e := 55) (by kernel_rfl) (by kernel_rfl) k o n m kd i
theorem fa55_0 (k o : Nat) : fieldAddrV Tryz.prog 55 (.ptr k o) 0 = some (.ptr k (o + 0)) := by kernel_rfl
theorem ty5 : tyR Tryz.prog 5 = some (1, false) := by kernel_rfl
theorem fa55_1 (k o : Nat) : fieldAddrV Tryz.prog 55 (.ptr k o) 1 = some (.ptr k (o + 1)) := by kernel_rfl
theorem ty9 : tyR Tryz.prog 9 = some (1, false) := by kernel_rfl
theorem fa25_1 (k o : Nat) : fieldAddrV Tryz.prog 25 (.ptr k o) 1 = some (.ptr k (o + 1)) := by kernel_rfl
theorem ty22 : tyR Tryz.prog 22 = some (1, false) := by kernel_rfl
theorem ia22 (k o n m : Nat) (kd : IntKind) (i : Int) : indexAddrV Tryz.prog 22 (.slice k o n m) (.int kd i) = if 0 ≤ i ∧ i < n then some (.ptr k (o + i.toNat * 2)) else none := indexAddr_slice (e := 57) (by kernel_rfl) (by kernel_rfl) k o n m kd i
theorem fa57_0 (k o : Nat) : fieldAddrV Tryz.prog 57 (.ptr k o) 0 = some (.ptr k (o + 0)) := by kernel_rfl
theorem fa57_1 (k o : Nat) : fieldAddrV Tryz.prog 57 (.ptr k o) 1 = some (.ptr k (o + 1)) := by kernel_rfl
theorem fa25_2 (k o : Nat) : fieldAddrV Tryz.prog 25 (.ptr k o) 2 = some (.ptr k (o + 2)) := by kernel_rfl
theorem ty23 : tyR Tryz.prog 23 = some (1, false) := by kernel_rfl
theorem fa25_0 (k o : Nat) : fieldAddrV Tryz.prog 25 (.ptr k o) 0 = some (.ptr k (o + 0)) := by kernel_rfl
theorem bu55_0_1 (v0_0 v1_0 : V) : buildV Tryz.prog 55 [(0, [v0_0]), (1, [v1_0])] = some (.agg [v0_0, v1_0, .int .u32 0, .int .u16 0, .int .u8 0, .int .u32 0, .int .u16 0, .nilslice]) := by kernel_rfl
theorem bs32_1 (v0_0 v0_1 v0_2 v0_3 v0_4 v0_5 v0_6 v0_7 : V) : buildSliceL Tryz.prog 32 1 [(0, [v0_0, v0_1, v0_2, v0_3, v0_4, v0_5, v0_6, v0_7])] = some ([v0_0, v0_1, v0_2, v0_3, v0_4, v0_5, v0_6, v0_7], 55) := by kernel_rfl
theorem ap32 : apI Tryz.prog 32 = some (55, 8, 64) := by kernel_rfl
theorem ty57 : tyR Tryz.prog 57 = some (2, true) := by kernel_rfl
theorem ze57 : zeroL Tryz.prog 57 = some [.str [], .str []] := by kernel_rfl
theorem sz57 : szT Tryz.prog 57 = some 2 := by kernel_rfl
theorem bu62_0_1_2 (v0_0 v1_0 v2_0 : V) : buildV Tryz.prog 62 [(0, [v0_0]), (1, [v1_0]), (2, [v2_0])] = some (.agg [v0_0, v1_0, v2_0]) := by kernel_rfl
theorem ty55 : tyR Tryz.prog 55 = some (8, true) := by kernel_rfl
theorem bu66_0_1_2 (v0_0 v1_0 v2_0 : V) : buildV Tryz.prog 66 [(0, [v0_0]), (1, [v1_0]), (2, [v2_0])] = some (.agg [v0_0, v1_0, v2_0, .bool false, .bool false]) := by kernel_rfl
theorem bu68_0_1_2 (v0_0 v1_0 v2_0 : V) : buildV Tryz.prog 68 [(0, [v0_0]), (1, [v1_0]), (2, [v2_0])] = some (.agg [v0_0, v1_0, v2_0, .bool false, .bool false]) := by kernel_rfl
theorem fa66_0 (k o : Nat) : fieldAddrV Tryz.prog 66 (.ptr k o) 0 = some (.ptr k (o + 0)) := by kernel_rfl
theorem fa66_3 (k o : Nat) : fieldAddrV Tryz.prog 66 (.ptr k o) 3 = some (.ptr k (o + 3)) := by kernel_rfl
theorem fa66_2 (k o : Nat) : fieldAddrV Tryz.prog 66 (.ptr k o) 2 = some (.ptr k (o + 2)) := by kernel_rfl
theorem ty32 : tyR Tryz.prog 32 = some (1, false) := by kernel_rfl
theorem sz4 : szT Tryz.prog 4 = some 1 := by kernel_rfl
theorem fa68_3 (k o : Nat) : fieldAddrV Tryz.prog 68 (.ptr k o) 3 = some (.ptr k (o + 3)) := by kernel_rfl
theorem fa68_2 (k o : Nat) : fieldAddrV Tryz.prog 68 (.ptr k o) 2 = some (.ptr k (o + 2)) := by kernel_rfl
theorem by43 : byteS Tryz.prog 43 = true := by kernel_rfl
theorem el43 : elemS Tryz.prog 43 = 5 := by kernel_rfl
theorem fa66_1 (k o : Nat) : fieldAddrV Tryz.prog 66 (.ptr k o) 1 = some (.ptr k (o + 1)) := by kernel_rfl
theorem ty27 : tyR Tryz.prog 27 = some (1, false) := by kernel_rfl
theorem ze73 : zeroL Tryz.prog 73 = some [.int .u64 0, .int .u64 0, .int .u16 0, .int .u16 0, .str [], .nilslice] := by kernel_rfl
theorem sz73 : szT Tryz.prog 73 = some 6 := by kernel_rfl
theorem fa66_4 (k o : Nat) : fieldAddrV Tryz.prog 66 (.ptr k o) 4 = some (.ptr k (o + 4)) := by kernel_rfl
theorem sz32 : szT Tryz.prog 32 = some 1 := by kernel_rfl
theorem fa68_1 (k o : Nat) : fieldAddrV Tryz.prog 68 (.ptr k o) 1 = some (.ptr k (o + 1)) := by kernel_rfl
theorem fa68_4 (k o : Nat) : fieldAddrV Tryz.prog 68 (.ptr k o) 4 = some (.ptr k (o + 4)) := by kernel_rfl
theorem ze25 : zeroL Tryz.prog 25 = some [.str [], .nilslice, .nilslice, .bool false, .bool false, .bool false, .bool false] := by kernel_rfl
theorem bu57_0_1 (v0_0 v1_0 : V) : buildV Tryz.prog 57 [(0, [v0_0]), (1, [v1_0])] = some (.agg [v0_0, v1_0]) := by kernel_rfl
theorem bs22_1 (v0_0 v0_1 : V) : buildSliceL Tryz.prog 22 1 [(0, [v0_0, v0_1])] = some ([v0_0, v0_1], 57) := by kernel_rfl
theorem bu25_0_1 (v0_0 v1_0 : V) : buildV Tryz.prog 25 [(0, [v0_0]), (1, [v1_0])] = some (.agg [v0_0, v1_0, .nilslice, .bool false, .bool false, .bool false, .bool false]) := by kernel_rfl
theorem sz25 : szT Tryz.prog 25 = some 7 := by kernel_rfl
theorem ia23 (k o n m : Nat) (kd : IntKind) (i : Int) : indexAddrV Tryz.prog 23 (.slice k o n m) (.int kd i) = if 0 ≤ i ∧ i < n then some (.ptr k (o + i.toNat * 1)) else none := indexAddr_slice (e := 9) (by kernel_rfl) (by kernel_rfl) k o n m kd i
theorem fa25_3 (k o : Nat) : fieldAddrV Tryz.prog 25 (.ptr k o) 3 = some (.ptr k (o + 3)) := by kernel_rfl
theorem fa25_4 (k o : Nat) : fieldAddrV Tryz.prog 25 (.ptr k o) 4 = some (.ptr k (o + 4)) := by kernel_rfl
theorem fa25_5 (k o : Nat) : fieldAddrV Tryz.prog 25 (.ptr k o) 5 = some (.ptr k (o + 5)) := by kernel_rfl
theorem fa25_6 (k o : Nat) : fieldAddrV Tryz.prog 25 (.ptr k o) 6 = some (.ptr k (o + 6)) := by kernel_rfl
theorem fa62_0 (k o : Nat) : fieldAddrV Tryz.prog 62 (.ptr k o) 0 = some (.ptr k (o + 0)) := by kernel_rfl
theorem ty3 : tyR Tryz.prog 3 = some (1, false) := by kernel_rfl
theorem fa62_1 (k o : Nat) : fieldAddrV Tryz.prog 62 (.ptr k o) 1 = some (.ptr k (o + 1)) := by kernel_rfl
theorem fa62_2 (k o : Nat) : fieldAddrV Tryz.prog 62 (.ptr k o) 2 = some (.ptr k (o + 2)) := by kernel_rfl
theorem fa55_2 (k o : Nat) : fieldAddrV Tryz.prog 55 (.ptr k o) 2 = some (.ptr k (o + 2)) := by kernel_rfl
theorem ty26 : tyR Tryz.prog 26 = some (1, false) := by kernel_rfl
theorem fa55_3 (k o : Nat) : fieldAddrV Tryz.prog 55 (.ptr k o) 3 = some (.ptr k (o + 3)) := by kernel_rfl
theorem ty53 : tyR Tryz.prog 53 = some (1, false) := by kernel_rfl
theorem fa55_4 (k o : Nat) : fieldAddrV Tryz.prog 55 (.ptr k o) 4 = some (.ptr k (o + 4)) := by kernel_rfl
theorem fa55_5 (k o : Nat) : fieldAddrV Tryz.prog 55 (.ptr k o) 5 = some (.ptr k (o + 5)) := by kernel_rfl
theorem fa55_6 (k o : Nat) : fieldAddrV Tryz.prog 55 (.ptr k o) 6 = some (.ptr k (o + 6)) := by kernel_rfl
theorem fa55_7 (k o : Nat) : fieldAddrV Tryz.prog 55 (.ptr k o) 7 = some (.ptr k (o + 7)) := by kernel_rfl
theorem bs43_1 (v0_0 : V) : buildSliceL Tryz.prog 43 1 [(0, [v0_0])] = some ([v0_0], 5) := by kernel_rfl
theorem ap43 : apI Tryz.prog 43 = some (5, 1, 1) := by kernel_rfl
theorem bs43_5 (v0_0 v1_0 v2_0 v3_0 v4_0 : V) : buildSliceL Tryz.prog 43 5 [(0, [v0_0]), (1, [v1_0]), (2, [v2_0]), (3, [v3_0]), (4, [v4_0])] = some ([v0_0, v1_0, v2_0, v3_0, v4_0], 5) := by kernel_rfl
theorem fa68_0 (k o : Nat) : fieldAddrV Tryz.prog 68 (.ptr k o) 0 = some (.ptr k (o + 0)) := by kernel_rfl
theorem bs43_0 : buildSliceL Tryz.prog 43 0 [] = some ([], 5) := by kernel_rfl
theorem ty73 : tyR Tryz.prog 73 = some (6, true) := by kernel_rfl
theorem bu85_0 (v0_0 : V) : buildV Tryz.prog 85 [(0, [v0_0])] = some (.agg [v0_0, .int .i64 0]) := by kernel_rfl
theorem bs43_2 (v0_0 v1_0 : V) : buildSliceL Tryz.prog 43 2 [(0, [v0_0]), (1, [v1_0])] = some ([v0_0, v1_0], 5) := by kernel_rfl
theorem bu73_0_1_2_3 (v0_0 v1_0 v2_0 v3_0 : V) : buildV Tryz.prog 73 [(0, [v0_0]), (1, [v1_0]), (2, [v2_0]), (3, [v3_0])] = some (.agg [v0_0, v1_0, v2_0, v3_0, .str [], .nilslice]) := by kernel_rfl
theorem fa85_1 (k o : Nat) : fieldAddrV Tryz.prog 85 (.ptr k o) 1 = some (.ptr k (o + 1)) := by kernel_rfl
theorem ty33 : tyR Tryz.prog 33 = some (1, false) := by kernel_rfl
theorem fa73_4 (k o : Nat) : fieldAddrV Tryz.prog 73 (.ptr k o) 4 = some (.ptr k (o + 4)) := by kernel_rfl
theorem sz9 : szT Tryz.prog 9 = some 1 := by kernel_rfl
theorem fa73_5 (k o : Nat) : fieldAddrV Tryz.prog 73 (.ptr k o) 5 = some (.ptr k (o + 5)) := by kernel_rfl
theorem sz43 : szT Tryz.prog 43 = some 1 := by kernel_rfl
theorem fa85_0 (k o : Nat) : fieldAddrV Tryz.prog 85 (.ptr k o) 0 = some (.ptr k (o + 0)) := by kernel_rfl
theorem bu73 : buildV Tryz.prog 73 [] = some (.agg [.int .u64 0, .int .u64 0, .int .u16 0, .int .u16 0, .str [], .nilslice]) := by kernel_rfl
theorem ia43 (k o n m : Nat) (kd : IntKind) (i : Int) : indexAddrV Tryz.prog 43 (.slice k o n m) (.int kd i) = if 0 ≤ i ∧ i < n then some (.ptr k (o + i.toNat * 1)) else none := indexAddr_slice (e := 5) (by kernel_rfl) (by kernel_rfl) k o n m kd i
theorem bu96_0 (v0_0 : V) : buildV Tryz.prog 96 [(0, [v0_0])] = some (.agg [v0_0, .int .i64 0]) := by kernel_rfl
theorem bu73_0 (v0_0 : V) : buildV Tryz.prog 73 [(0, [v0_0])] = some (.agg [v0_0, .int .u64 0, .int .u16 0, .int .u16 0, .str [], .nilslice]) := by kernel_rfl
theorem fa73_1 (k o : Nat) : fieldAddrV Tryz.prog 73 (.ptr k o) 1 = some (.ptr k (o + 1)) := by kernel_rfl
theorem sz71 : szT Tryz.prog 71 = some 1 := by kernel_rfl
theorem fa73_2 (k o : Nat) : fieldAddrV Tryz.prog 73 (.ptr k o) 2 = some (.ptr k (o + 2)) := by kernel_rfl
theorem sz53 : szT Tryz.prog 53 = some 1 := by kernel_rfl
theorem fa73_3 (k o : Nat) : fieldAddrV Tryz.prog 73 (.ptr k o) 3 = some (.ptr k (o + 3)) := by kernel_rfl
theorem fa96_0 (k o : Nat) : fieldAddrV Tryz.prog 96 (.ptr k o) 0 = some (.ptr k (o + 0)) := by kernel_rfl
theorem fa96_1 (k o : Nat) : fieldAddrV Tryz.prog 96 (.ptr k o) 1 = some (.ptr k (o + 1)) := by kernel_rfl
theorem ze55 : zeroL Tryz.prog 55 = some [.int .u8 0, .str [], .int .u32 0, .int .u16 0, .int .u8 0, .int .u32 0, .int .u16 0, .nilslice] := by kernel_rfl
theorem sz55 : szT Tryz.prog 55 = some 8 := by kernel_rfl
-- eq on type 43
theorem sz33 : szT Tryz.prog 33 = some 1 := by kernel_rfl
theorem bu55_0 (v0_0 : V) : buildV Tryz.prog 55 [(0, [v0_0])] = some (.agg [v0_0, .str [], .int .u32 0, .int .u16 0, .int .u8 0, .int .u32 0, .int .u16 0, .nilslice]) := by kernel_rfl
theorem sz26 : szT Tryz.prog 26 = some 1 := by kernel_rfl
theorem sz5 : szT Tryz.prog 5 = some 1 := by kernel_rfl
theorem ze117 : zeroL Tryz.prog 117 = some [.nilptr, .nilslice] := by kernel_rfl
theorem fa117_1 (k o : Nat) : fieldAddrV Tryz.prog 117 (.ptr k o) 1 = some (.ptr k (o + 1)) := by kernel_rfl
theorem fa117_0 (k o : Nat) : fieldAddrV Tryz.prog 117 (.ptr k o) 0 = some (.ptr k (o + 0)) := by kernel_rfl
theorem ty115 : tyR Tryz.prog 115 = some (1, false) := by kernel_rfl
theorem ps115 : ptrSz Tryz.prog 115 = true := by kernel_rfl
theorem sz115 : szT Tryz.prog 115 = some 1 := by kernel_rfl
noncomputable def factsT := And.intro @Tryz.underlying3 <| And.intro @Tryz.underlying4 <| And.intro @Tryz.underlying5 <| And.intro @Tryz.underlying9 <| And.intro @Tryz.underlying22 <| And.intro @Tryz.underlying23 <| And.intro @Tryz.underlying25 <| And.intro @Tryz.underlying26 <| And.intro @Tryz.underlying27 <| And.intro @Tryz.underlying28 <| And.intro @Tryz.underlying29 <| And.intro @Tryz.underlying32 <| And.intro @Tryz.underlying33 <| And.intro @Tryz.underlying37 <| And.intro @Tryz.underlying40 <| And.intro @Tryz.underlying43 <| And.intro @Tryz.underlying53 <| And.intro @Tryz.underlying55 <| And.intro @Tryz.underlying62 <| And.intro @Tryz.underlying71 <| And.intro @Tryz.underlying73 <| And.intro @Tryz.underlying83 <| And.intro @Tryz.underlying94 <| And.intro @Tryz.underlying113 <| And.intro @Tryz.underlying115 <| And.intro @Tryz.underlying120 <| And.intro @Tryz.underlying127 <| And.intro @Tryz.underlying128 <| And.intro @ty25 <| And.intro @ps37 <| And.intro @ps40 <| And.intro @ia28 <| And.intro @ty43 <| And.intro @ia29 <| And.intro @ty4 <| And.intro @ia32 <| And.intro @fa55_0 <| And.intro @ty5 <| And.intro @fa55_1 <| And.intro @ty9 <| And.intro @fa25_1 <| And.intro @ty22 <| And.intro @ia22 <| And.intro @fa57_0 <| And.intro @fa57_1 <| And.intro @fa25_2 <| And.intro @ty23 <| And.intro @fa25_0 <| And.intro @bu55_0_1 <| And.intro @bs32_1 <| And.intro @ap32 <| And.intro @ty57 <| And.intro @ze57 <| And.intro @sz57 <| And.intro @bu62_0_1_2 <| And.intro @ty55 <| And.intro @bu66_0_1_2 <| And.intro @bu68_0_1_2 <| And.intro @fa66_0 <| And.intro @fa66_3 <| And.intro @fa66_2 <| And.intro @ty32 <| And.intro @sz4 <| And.intro @fa68_3 <| And.intro @fa68_2 <| And.intro @by43 <| And.intro @el43 <| And.intro @fa66_1 <| And.intro @ty27 <| And.intro @ze73 <| And.intro @sz73 <| And.intro @fa66_4 <| And.intro @sz32 <| And.intro @fa68_1 <| And.intro @fa68_4 <| And.intro @ze25 <| And.intro @bu57_0_1 <| And.intro @bs22_1 <| And.intro @bu25_0_1 <| And.intro @sz25 <| And.intro @ia23 <| And.intro @fa25_3 <| And.intro @fa25_4 <| And.intro @fa25_5 <| And.intro @fa25_6 <| And.intro @fa62_0 <| And.intro @ty3 <| And.intro @fa62_1 <| And.intro @fa62_2 <| And.intro @fa55_2 <| And.intro @ty26 <| And.intro @fa55_3 <| And.intro @ty53 <| And.intro @fa55_4 <| And.intro @fa55_5 <| And.intro @fa55_6 <| And.intro @fa55_7 <| And.intro @bs43_1 <| And.intro @ap43 <| And.intro @bs43_5 <| And.intro @fa68_0 <| And.intro @bs43_0 <| And.intro @ty73 <| And.intro @bu85_0 <| And.intro @bs43_2 <| And.intro @bu73_0_1_2_3 <| And.intro @fa85_1 <| And.intro @ty33 <| And.intro @fa73_4 <| And.intro @sz9 <| And.intro @fa73_5 <| And.intro @sz43 <| And.intro @fa85_0 <| And.intro @bu73 <| And.intro @ia43 <| And.intro @bu96_0 <| And.intro @bu73_0 <| And.intro @fa73_1 <| And.intro @sz71 <| And.intro @fa73_2 <| And.intro @sz53 <| And.intro @fa73_3 <| And.intro @fa96_0 <| And.intro @fa96_1 <| And.intro @ze55 <| And.intro @sz55 <| And.intro @sz33 <| And.intro @bu55_0 <| And.intro @sz26 <| And.intro @sz5 <| And.intro @ze117 <| And.intro @fa117_1 <| And.intro @fa117_0 <| And.intro @ty115 <| And.intro @ps115 <| @sz115
end
end Go.Proofs.YtlffhbpkphigdaaGreatDoor
set_option linter.unusedSectionVars false
set_option maxRecDepth 10000
set_option maxHeartbeats 1000000
namespace Go.Proofs.YtlffhbpkphigdaaGreatDoor
open Go.Proofs Go.Lx Go.Wx Go.IntWalk
noncomputable section
structure Set0 where
  exts : List (FuncId × (List V → M V))
  gl : T (List V)
noncomputable def Set0.cfg (S : Set0) : Cfg := { P := Tryz.prog, lf := 0, gl := S.gl, sum := sums S.exts }
structure StdB (S : Set0) : Prop where
  ownB : ∀ f, f ∈ [76, 74, 77, 45, 73, 75, 52, 53, 57, 51, 55, 58, 54, 56, 34, 35] → sums S.exts f = none
  bidx : sums S.exts 83 = some idxM
theorem cfgP (S : Set0) : S.cfg.P = Tryz.prog := rfl
section
variable {c : Cfg} {Ok : Nat → Prop} {env : Env} {h : H} {K : V → H → Fp → Prop}
theorem gOp_no {op : Op} : gOp c Ok False op env h K = K undefV h (.lg []) := by unfold gOp; simp
theorem gOp_yes {op : Op} : gOp c Ok True op env h K = opW c Ok op env h K := by unfold gOp; simp
end
noncomputable def facts := And.intro @cfgP <| And.intro @factsT <| And.intro @gOp_no @gOp_yes
theorem ubs : Tryz.prog.underlying 43 = some (.slice 5) := by kernel_rfl
theorem szb : szT Tryz.prog 5 = some 1 := by kernel_rfl
theorem n40 : ((4 : Int) = 0) = False := by decide
theorem n50 : ((5 : Int) = 0) = False := by decide
theorem n20 : ((2 : Int) = 0) = False := by decide
variable {S : Set0} (hS : StdB S)
include hS
theorem rfx_spec {v : V} {l : List Nat} {h : H} (a : BS 5 h v l) (hl : l.length < 2 ^ 62) (n : Nat) (hn : 1 ≤ n ∧ n ≤ 8) : Exact S.cfg 76 [v, .int .i64 n] h (.tuple [.int .u64 (if l.length < n then 0 else rdX l n), .int .i64 (if l.length < n then 4 else 0)]) := by
  refine into Tryz.f76 _ Tryz.func76 (hS.ownB _ (by decide)) rfl rfl (by kernel_rfl) (by kernel_rfl) ?_
  have a1 := a.len 5
  have n1 : ¬ n < 1 := by omega
  have n2 : ¬ 8 < n := by omega
  by_cases h1 : l.length < n
  · rw [if_pos h1, if_pos h1]
    simp +contextual (disch := first | (simp only [facts, clsL, clsS, clsC, isPtrD]; done) | omega | (simp only [push_nx, put_nx, del_nx]; omega) | (refine Nat.le_antisymm ?_ ?_ <;> simp only [push_nx, put_nx, del_nx] <;> omega) | fail) only [wpy, facts, wpb, cst, wpk, wpl, forall_const, implies_true, false_implies, Int.reduceLE, Int.reduceLT, Nat.reduceLeDiff, UInt8.reduceToNat, ↓reduceIte, Nat.reduceEqDiff, Nat.reduceAdd, reduceCtorEq, Int.reduceToNat, clsL, clsS, clsC, Tryz.f76, a1, h1, n1, n2]
  rw [if_neg h1, if_neg h1]
  obtain ⟨b, o, m, rfl, _, _⟩ := a.at (i := 0) (by omega)
  obtain ⟨_, hb, hrd⟩ := a.rd
  simp +contextual (disch := first | (simp only [facts, clsL, clsS, clsC, isPtrD]; done) | omega | (simp only [push_nx, put_nx, del_nx]; omega) | (refine Nat.le_antisymm ?_ ?_ <;> simp only [push_nx, put_nx, del_nx] <;> omega) | fail) only [wpy, facts, wpb, cst, wpk, wpl, forall_const, implies_true, false_implies, Int.reduceLE, Int.reduceLT, Nat.reduceLeDiff, UInt8.reduceToNat, ↓reduceIte, Nat.reduceEqDiff, Nat.reduceAdd, reduceCtorEq, Int.reduceToNat, clsL, clsS, clsC, Tryz.f76, a1, h1, n1, n2]
  refine run_loop (fun k env h' => ∃ i : Nat, k = n - i ∧ i ≤ n ∧ env 0 = .slice b o l.length m ∧ env 18 = .int .i64 n ∧ env 19 = .int .i64 i ∧ env 6 = .int .u64 (rdX l i) ∧ h' = h) n ⟨0, ?_⟩ ?_
  · simp +contextual (disch := first | (simp only [facts, clsL, clsS, clsC, isPtrD]; done) | omega | (simp only [push_nx, put_nx, del_nx]; omega) | (refine Nat.le_antisymm ?_ ?_ <;> simp only [push_nx, put_nx, del_nx] <;> omega) | fail) only [wpy, facts, wpb, cst, wpk, wpl, forall_const, implies_true, false_implies, Int.reduceLE, Int.reduceLT, Nat.reduceLeDiff, UInt8.reduceToNat, ↓reduceIte, Nat.reduceEqDiff, Nat.reduceAdd, reduceCtorEq, Int.reduceToNat, clsL, clsS, clsC]
    exact ⟨rfl, rfl⟩
  rintro k env h' ⟨i, rfl, hi, e0, e18, e19, e6, rfl⟩
  by_cases hin : i < n
  · have hr := hrd i (by omega)
    have hby := byI_in a.1 i
    have hil : i < l.length := by omega
    have w1 : IntKind.i64.wrap (8 * (i : Int)) = 8 * (i : Int) := i64_in _ (by omega)
    have w2 : ¬ (8 * (i : Int) < 0) := by omega
    have w3 : IntKind.u64.wrap (byI l i) = byI l i := u64_in _ (by omega)
    simp +contextual (disch := first | (simp only [facts, clsL, clsS, clsC, isPtrD]; done) | omega | (simp only [push_nx, put_nx, del_nx]; omega) | (refine Nat.le_antisymm ?_ ?_ <;> simp only [push_nx, put_nx, del_nx] <;> omega) | fail) only [wpy, facts, wpb, cst, wpk, wpl, forall_const, implies_true, false_implies, Int.reduceLE, Int.reduceLT, Nat.reduceLeDiff, UInt8.reduceToNat, ↓reduceIte, Nat.reduceEqDiff, Nat.reduceAdd, reduceCtorEq, Int.reduceToNat, clsL, clsS, clsC, Tryz.f76, e0, e18, e19, e6, hin, hil, hr, w1, w2, w3]
    exact ⟨_, by omega, i + 1, rfl, by omega, rfl, rfl⟩
  · obtain rfl : i = n := by omega
    simp +contextual (disch := first | (simp only [facts, clsL, clsS, clsC, isPtrD]; done) | omega | (simp only [push_nx, put_nx, del_nx]; omega) | (refine Nat.le_antisymm ?_ ?_ <;> simp only [push_nx, put_nx, del_nx] <;> omega) | fail) only [wpy, facts, wpb, cst, wpk, wpl, forall_const, implies_true, false_implies, Int.reduceLE, Int.reduceLT, Nat.reduceLeDiff, UInt8.reduceToNat, ↓reduceIte, Nat.reduceEqDiff, Nat.reduceAdd, reduceCtorEq, Int.reduceToNat, clsL, clsS, clsC, Tryz.f76, e0, e18, e19, e6, hin]
theorem rin_spec {v : V} {l : List Nat} {h : H} (a : BS 5 h v l) (hl : l.length < 2 ^ 62) : Exact S.cfg 74 [v] h (.tuple [.int .u64 (iiF l).1, .int .i64 ((iiF l).2.1 : Nat), .int .i64 (iiF l).2.2]) := by
  refine into Tryz.f74 _ Tryz.func74 (hS.ownB _ (by decide)) rfl rfl (by kernel_rfl) (by kernel_rfl) ?_
  have a1 := a.len 5
  by_cases h0 : l.length = 0
  · have e : iiF l = (0, 0, 4) := by unfold iiF; rw [if_pos h0]
    rw [e]
    simp +contextual (disch := first | (simp only [facts, clsL, clsS, clsC, isPtrD]; done) | omega | (simp only [push_nx, put_nx, del_nx]; omega) | (refine Nat.le_antisymm ?_ ?_ <;> simp only [push_nx, put_nx, del_nx] <;> omega) | fail) only [wpy, facts, wpb, cst, wpk, wpl, forall_const, implies_true, false_implies, Int.reduceLE, Int.reduceLT, Nat.reduceLeDiff, UInt8.reduceToNat, ↓reduceIte, Nat.reduceEqDiff, Nat.reduceAdd, reduceCtorEq, Int.reduceToNat, clsL, clsS, clsC, Tryz.f74, a1, h0]
    rfl
  obtain ⟨b, o, m, rfl, _, _⟩ := a.at (i := 0) (by omega)
  obtain ⟨_, hb, hrd⟩ := a.rd
  have hr := hrd 0 (by omega)
  rw [Nat.add_zero] at hr
  have hby := byI_in a.1 0
  have hl0 : 0 < l.length := by omega
  have w3 : IntKind.u64.wrap (byI l 0) = byI l 0 := u64_in _ (by omega)
  by_cases h1 : byI l 0 ≤ 250
  · have e : iiF l = (byI l 0, 1, 0) := by unfold iiF; rw [if_neg h0, if_pos h1]
    have n1 : ¬ byI l 0 = 252 := by omega
    have n2 : ¬ byI l 0 = 253 := by omega
    have n3 : ¬ byI l 0 = 254 := by omega
    have n4 : ¬ byI l 0 = 251 := by omega
    have n5 : ¬ byI l 0 = 255 := by omega
    rw [e]
    simp +contextual (disch := first | (simp only [facts, clsL, clsS, clsC, isPtrD]; done) | omega | (simp only [push_nx, put_nx, del_nx]; omega) | (refine Nat.le_antisymm ?_ ?_ <;> simp only [push_nx, put_nx, del_nx] <;> omega) | fail) only [wpy, facts, wpb, cst, wpk, wpl, forall_const, implies_true, false_implies, Int.reduceLE, Int.reduceLT, Nat.reduceLeDiff, UInt8.reduceToNat, ↓reduceIte, Nat.reduceEqDiff, Nat.reduceAdd, reduceCtorEq, Int.reduceToNat, clsL, clsS, clsC, Tryz.f74, a1, h0, hl0, hr, w3, n1, n2, n3, n4, n5]
    rfl
  by_cases h2 : byI l 0 = 251 ∨ byI l 0 = 255
  · have e : iiF l = (0, 0, 5) := by unfold iiF; rw [if_neg h0, if_neg h1, if_pos h2]
    have n1 : ¬ byI l 0 = 252 := by omega
    have n2 : ¬ byI l 0 = 253 := by omega
    have n3 : ¬ byI l 0 = 254 := by omega
    rw [e]
    rcases h2 with h2 | h2
    · have h2 := eq_true h2
      simp +contextual (disch := first | (simp only [facts, clsL, clsS, clsC, isPtrD]; done) | omega | (simp only [push_nx, put_nx, del_nx]; omega) | (refine Nat.le_antisymm ?_ ?_ <;> simp only [push_nx, put_nx, del_nx] <;> omega) | fail) only [wpy, facts, wpb, cst, wpk, wpl, forall_const, implies_true, false_implies, Int.reduceLE, Int.reduceLT, Nat.reduceLeDiff, UInt8.reduceToNat, ↓reduceIte, Nat.reduceEqDiff, Nat.reduceAdd, reduceCtorEq, Int.reduceToNat, clsL, clsS, clsC, Tryz.f74, a1, h0, hl0, hr, w3, n1, n2, n3, h2]
      rfl
    · have n4 : ¬ byI l 0 = 251 := by omega
      have h2 := eq_true h2
      simp +contextual (disch := first | (simp only [facts, clsL, clsS, clsC, isPtrD]; done) | omega | (simp only [push_nx, put_nx, del_nx]; omega) | (refine Nat.le_antisymm ?_ ?_ <;> simp only [push_nx, put_nx, del_nx] <;> omega) | fail) only [wpy, facts, wpb, cst, wpk, wpl, forall_const, implies_true, false_implies, Int.reduceLE, Int.reduceLT, Nat.reduceLeDiff, UInt8.reduceToNat, ↓reduceIte, Nat.reduceEqDiff, Nat.reduceAdd, reduceCtorEq, Int.reduceToNat, clsL, clsS, clsC, Tryz.f74, a1, h0, hl0, hr, w3, n1, n2, n3, n4, h2]
      rfl
  have hs := iiS_in (byI l 0)
  have hd : (l.drop 1).length = l.length - 1 := List.length_drop
  have key : ∀ n : Nat, iiS (byI l 0) = n → iiF l = if l.length - 1 < n then (0, 0, 4) else (rdX (l.drop 1) n, n + 1, 0) := fun n hn => by
    unfold iiF; rw [if_neg h0, if_neg h1, if_neg h2, hn]
  by_cases c1 : byI l 0 = 252
  · rw [key 2 (by unfold iiS; rw [if_pos c1])]
    have c1 := eq_true c1
    simp +contextual (disch := first | (simp only [facts, clsL, clsS, clsC, isPtrD]; done) | omega | (simp only [push_nx, put_nx, del_nx]; omega) | (refine Nat.le_antisymm ?_ ?_ <;> simp only [push_nx, put_nx, del_nx] <;> omega) | fail) only [wpy, facts, wpb, cst, wpk, wpl, forall_const, implies_true, false_implies, Int.reduceLE, Int.reduceLT, Nat.reduceLeDiff, UInt8.reduceToNat, ↓reduceIte, Nat.reduceEqDiff, Nat.reduceAdd, reduceCtorEq, Int.reduceToNat, clsL, clsS, clsC, Tryz.f74, a1, h0, hl0, hr, w3, c1]
    refine drop_bs (i := 1) a ubs szb (by simp +contextual (disch := first | (simp only [facts, clsL, clsS, clsC, isPtrD]; done) | omega | (simp only [push_nx, put_nx, del_nx]; omega) | (refine Nat.le_antisymm ?_ ?_ <;> simp only [push_nx, put_nx, del_nx] <;> omega) | fail) only [wpy, facts, wpb, cst, wpk, wpl, forall_const, implies_true, false_implies, Int.reduceLE, Int.reduceLT, Nat.reduceLeDiff, UInt8.reduceToNat, ↓reduceIte, Nat.reduceEqDiff, Nat.reduceAdd, reduceCtorEq, Int.reduceToNat, clsL, clsS, clsC]) (by simp +contextual (disch := first | (simp only [facts, clsL, clsS, clsC, isPtrD]; done) | omega | (simp only [push_nx, put_nx, del_nx]; omega) | (refine Nat.le_antisymm ?_ ?_ <;> simp only [push_nx, put_nx, del_nx] <;> omega) | fail) only [wpy, facts, wpb, cst, wpk, wpl, forall_const, implies_true, false_implies, Int.reduceLE, Int.reduceLT, Nat.reduceLeDiff, UInt8.reduceToNat, ↓reduceIte, Nat.reduceEqDiff, Nat.reduceAdd, reduceCtorEq, Int.reduceToNat, clsL, clsS, clsC]) hl0 fun w L hw _ _ => ?_
    simp +contextual (disch := first | (simp only [facts, clsL, clsS, clsC, isPtrD]; done) | omega | (simp only [push_nx, put_nx, del_nx]; omega) | (refine Nat.le_antisymm ?_ ?_ <;> simp only [push_nx, put_nx, del_nx] <;> omega) | fail) only [wpy, facts, wpb, cst, wpk, wpl, forall_const, implies_true, false_implies, Int.reduceLE, Int.reduceLT, Nat.reduceLeDiff, UInt8.reduceToNat, ↓reduceIte, Nat.reduceEqDiff, Nat.reduceAdd, reduceCtorEq, Int.reduceToNat, clsL, clsS, clsC, Tryz.f74]
    refine callF_exact (rfx_spec hS hw (by rw [hd]; omega) 2 (by omega)) ?_
    rw [hd]
    by_cases h5 : l.length - 1 < 2
    · rw [if_pos h5]; simp +contextual (disch := first | (simp only [facts, clsL, clsS, clsC, isPtrD]; done) | omega | (simp only [push_nx, put_nx, del_nx]; omega) | (refine Nat.le_antisymm ?_ ?_ <;> simp only [push_nx, put_nx, del_nx] <;> omega) | fail) only [wpy, facts, wpb, cst, wpk, wpl, forall_const, implies_true, false_implies, Int.reduceLE, Int.reduceLT, Nat.reduceLeDiff, UInt8.reduceToNat, ↓reduceIte, Nat.reduceEqDiff, Nat.reduceAdd, reduceCtorEq, Int.reduceToNat, clsL, clsS, clsC, Tryz.f74, h5, n40]; rfl
    · rw [if_neg h5]; simp +contextual (disch := first | (simp only [facts, clsL, clsS, clsC, isPtrD]; done) | omega | (simp only [push_nx, put_nx, del_nx]; omega) | (refine Nat.le_antisymm ?_ ?_ <;> simp only [push_nx, put_nx, del_nx] <;> omega) | fail) only [wpy, facts, wpb, cst, wpk, wpl, forall_const, implies_true, false_implies, Int.reduceLE, Int.reduceLT, Nat.reduceLeDiff, UInt8.reduceToNat, ↓reduceIte, Nat.reduceEqDiff, Nat.reduceAdd, reduceCtorEq, Int.reduceToNat, clsL, clsS, clsC, Tryz.f74, h5]; rfl
  by_cases c2 : byI l 0 = 253
  · rw [key 3 (by unfold iiS; rw [if_neg c1, if_pos c2])]
    have c2 := eq_true c2
    simp +contextual (disch := first | (simp only [facts, clsL, clsS, clsC, isPtrD]; done) | omega | (simp only [push_nx, put_nx, del_nx]; omega) | (refine Nat.le_antisymm ?_ ?_ <;> simp only [push_nx, put_nx, del_nx] <;> omega) | fail) only [wpy, facts, wpb, cst, wpk, wpl, forall_const, implies_true, false_implies, Int.reduceLE, Int.reduceLT, Nat.reduceLeDiff, UInt8.reduceToNat, ↓reduceIte, Nat.reduceEqDiff, Nat.reduceAdd, reduceCtorEq, Int.reduceToNat, clsL, clsS, clsC, Tryz.f74, a1, h0, hl0, hr, w3, c1, c2]
    refine drop_bs (i := 1) a ubs szb (by simp +contextual (disch := first | (simp only [facts, clsL, clsS, clsC, isPtrD]; done) | omega | (simp only [push_nx, put_nx, del_nx]; omega) | (refine Nat.le_antisymm ?_ ?_ <;> simp only [push_nx, put_nx, del_nx] <;> omega) | fail) only [wpy, facts, wpb, cst, wpk, wpl, forall_const, implies_true, false_implies, Int.reduceLE, Int.reduceLT, Nat.reduceLeDiff, UInt8.reduceToNat, ↓reduceIte, Nat.reduceEqDiff, Nat.reduceAdd, reduceCtorEq, Int.reduceToNat, clsL, clsS, clsC]) (by simp +contextual (disch := first | (simp only [facts, clsL, clsS, clsC, isPtrD]; done) | omega | (simp only [push_nx, put_nx, del_nx]; omega) | (refine Nat.le_antisymm ?_ ?_ <;> simp only [push_nx, put_nx, del_nx] <;> omega) | fail) only [wpy, facts, wpb, cst, wpk, wpl, forall_const, implies_true, false_implies, Int.reduceLE, Int.reduceLT, Nat.reduceLeDiff, UInt8.reduceToNat, ↓reduceIte, Nat.reduceEqDiff, Nat.reduceAdd, reduceCtorEq, Int.reduceToNat, clsL, clsS, clsC]) hl0 fun w L hw _ _ => ?_
    simp +contextual (disch := first | (simp only [facts, clsL, clsS, clsC, isPtrD]; done) | omega | (simp only [push_nx, put_nx, del_nx]; omega) | (refine Nat.le_antisymm ?_ ?_ <;> simp only [push_nx, put_nx, del_nx] <;> omega) | fail) only [wpy, facts, wpb, cst, wpk, wpl, forall_const, implies_true, false_implies, Int.reduceLE, Int.reduceLT, Nat.reduceLeDiff, UInt8.reduceToNat, ↓reduceIte, Nat.reduceEqDiff, Nat.reduceAdd, reduceCtorEq, Int.reduceToNat, clsL, clsS, clsC, Tryz.f74]
    refine callF_exact (rfx_spec hS hw (by rw [hd]; omega) 3 (by omega)) ?_
    rw [hd]
    by_cases h5 : l.length - 1 < 3
    · rw [if_pos h5]; simp +contextual (disch := first | (simp only [facts, clsL, clsS, clsC, isPtrD]; done) | omega | (simp only [push_nx, put_nx, del_nx]; omega) | (refine Nat.le_antisymm ?_ ?_ <;> simp only [push_nx, put_nx, del_nx] <;> omega) | fail) only [wpy, facts, wpb, cst, wpk, wpl, forall_const, implies_true, false_implies, Int.reduceLE, Int.reduceLT, Nat.reduceLeDiff, UInt8.reduceToNat, ↓reduceIte, Nat.reduceEqDiff, Nat.reduceAdd, reduceCtorEq, Int.reduceToNat, clsL, clsS, clsC, Tryz.f74, h5, n40]; rfl
    · rw [if_neg h5]; simp +contextual (disch := first | (simp only [facts, clsL, clsS, clsC, isPtrD]; done) | omega | (simp only [push_nx, put_nx, del_nx]; omega) | (refine Nat.le_antisymm ?_ ?_ <;> simp only [push_nx, put_nx, del_nx] <;> omega) | fail) only [wpy, facts, wpb, cst, wpk, wpl, forall_const, implies_true, false_implies, Int.reduceLE, Int.reduceLT, Nat.reduceLeDiff, UInt8.reduceToNat, ↓reduceIte, Nat.reduceEqDiff, Nat.reduceAdd, reduceCtorEq, Int.reduceToNat, clsL, clsS, clsC, Tryz.f74, h5]; rfl
  have c3 : byI l 0 = 254 := by omega
  · rw [key 8 (by unfold iiS; rw [if_neg c1, if_neg c2])]
    have c3 := eq_true c3
    simp +contextual (disch := first | (simp only [facts, clsL, clsS, clsC, isPtrD]; done) | omega | (simp only [push_nx, put_nx, del_nx]; omega) | (refine Nat.le_antisymm ?_ ?_ <;> simp only [push_nx, put_nx, del_nx] <;> omega) | fail) only [wpy, facts, wpb, cst, wpk, wpl, forall_const, implies_true, false_implies, Int.reduceLE, Int.reduceLT, Nat.reduceLeDiff, UInt8.reduceToNat, ↓reduceIte, Nat.reduceEqDiff, Nat.reduceAdd, reduceCtorEq, Int.reduceToNat, clsL, clsS, clsC, Tryz.f74, a1, h0, hl0, hr, w3, c1, c2, c3]
    refine drop_bs (i := 1) a ubs szb (by simp +contextual (disch := first | (simp only [facts, clsL, clsS, clsC, isPtrD]; done) | omega | (simp only [push_nx, put_nx, del_nx]; omega) | (refine Nat.le_antisymm ?_ ?_ <;> simp only [push_nx, put_nx, del_nx] <;> omega) | fail) only [wpy, facts, wpb, cst, wpk, wpl, forall_const, implies_true, false_implies, Int.reduceLE, Int.reduceLT, Nat.reduceLeDiff, UInt8.reduceToNat, ↓reduceIte, Nat.reduceEqDiff, Nat.reduceAdd, reduceCtorEq, Int.reduceToNat, clsL, clsS, clsC]) (by simp +contextual (disch := first | (simp only [facts, clsL, clsS, clsC, isPtrD]; done) | omega | (simp only [push_nx, put_nx, del_nx]; omega) | (refine Nat.le_antisymm ?_ ?_ <;> simp only [push_nx, put_nx, del_nx] <;> omega) | fail) only [wpy, facts, wpb, cst, wpk, wpl, forall_const, implies_true, false_implies, Int.reduceLE, Int.reduceLT, Nat.reduceLeDiff, UInt8.reduceToNat, ↓reduceIte, Nat.reduceEqDiff, Nat.reduceAdd, reduceCtorEq, Int.reduceToNat, clsL, clsS, clsC]) hl0 fun w L hw _ _ => ?_
    simp +contextual (disch := first | (simp only [facts, clsL, clsS, clsC, isPtrD]; done) | omega | (simp only [push_nx, put_nx, del_nx]; omega) | (refine Nat.le_antisymm ?_ ?_ <;> simp only [push_nx, put_nx, del_nx] <;> omega) | fail) only [wpy, facts, wpb, cst, wpk, wpl, forall_const, implies_true, false_implies, Int.reduceLE, Int.reduceLT, Nat.reduceLeDiff, UInt8.reduceToNat, ↓reduceIte, Nat.reduceEqDiff, Nat.reduceAdd, reduceCtorEq, Int.reduceToNat, clsL, clsS, clsC, Tryz.f74]
    refine callF_exact (rfx_spec hS hw (by rw [hd]; omega) 8 (by omega)) ?_
    rw [hd]
    by_cases h5 : l.length - 1 < 8
    · rw [if_pos h5]; simp +contextual (disch := first | (simp only [facts, clsL, clsS, clsC, isPtrD]; done) | omega | (simp only [push_nx, put_nx, del_nx]; omega) | (refine Nat.le_antisymm ?_ ?_ <;> simp only [push_nx, put_nx, del_nx] <;> omega) | fail) only [wpy, facts, wpb, cst, wpk, wpl, forall_const, implies_true, false_implies, Int.reduceLE, Int.reduceLT, Nat.reduceLeDiff, UInt8.reduceToNat, ↓reduceIte, Nat.reduceEqDiff, Nat.reduceAdd, reduceCtorEq, Int.reduceToNat, clsL, clsS, clsC, Tryz.f74, h5, n40]; rfl
    · rw [if_neg h5]; simp +contextual (disch := first | (simp only [facts, clsL, clsS, clsC, isPtrD]; done) | omega | (simp only [push_nx, put_nx, del_nx]; omega) | (refine Nat.le_antisymm ?_ ?_ <;> simp only [push_nx, put_nx, del_nx] <;> omega) | fail) only [wpy, facts, wpb, cst, wpk, wpl, forall_const, implies_true, false_implies, Int.reduceLE, Int.reduceLT, Nat.reduceLeDiff, UInt8.reduceToNat, ↓reduceIte, Nat.reduceEqDiff, Nat.reduceAdd, reduceCtorEq, Int.reduceToNat, clsL, clsS, clsC, Tryz.f74, h5]; rfl
theorem rtx_spec {v : V} {l : List Nat} {h : H} (a : BS 5 h v l) (hl : l.length < 2 ^ 62) : Exact S.cfg 77 [v] h (.tuple [.str (txF l).1, .int .i64 ((txF l).2.1 : Nat), .int .i64 (txF l).2.2]) := by
  refine into Tryz.f77 _ Tryz.func77 (hS.ownB _ (by decide)) rfl rfl (by kernel_rfl) (by kernel_rfl) ?_
  have a1 := a.len 5
  have hi := iiF_ok a.1
  simp +contextual (disch := first | (simp only [facts, clsL, clsS, clsC, isPtrD]; done) | omega | (simp only [push_nx, put_nx, del_nx]; omega) | (refine Nat.le_antisymm ?_ ?_ <;> simp only [push_nx, put_nx, del_nx] <;> omega) | fail) only [wpy, facts, wpb, cst, wpk, wpl, forall_const, implies_true, false_implies, Int.reduceLE, Int.reduceLT, Nat.reduceLeDiff, UInt8.reduceToNat, ↓reduceIte, Nat.reduceEqDiff, Nat.reduceAdd, reduceCtorEq, Int.reduceToNat, clsL, clsS, clsC, Tryz.f77]
  refine callF_exact (rin_spec hS a hl) ?_
  by_cases h0 : (iiF l).2.2 ≠ 0
  · have e : txF l = ([], 0, (iiF l).2.2) := by unfold txF; rw [if_pos h0]
    have h0' : ¬ (iiF l).2.2 = 0 := h0
    rw [e]
    simp +contextual (disch := first | (simp only [facts, clsL, clsS, clsC, isPtrD]; done) | omega | (simp only [push_nx, put_nx, del_nx]; omega) | (refine Nat.le_antisymm ?_ ?_ <;> simp only [push_nx, put_nx, del_nx] <;> omega) | fail) only [wpy, facts, wpb, cst, wpk, wpl, forall_const, implies_true, false_implies, Int.reduceLE, Int.reduceLT, Nat.reduceLeDiff, UInt8.reduceToNat, ↓reduceIte, Nat.reduceEqDiff, Nat.reduceAdd, reduceCtorEq, Int.reduceToNat, clsL, clsS, clsC, Tryz.f77, h0']
    rfl
  have h0' : (iiF l).2.2 = 0 := Classical.not_not.1 h0
  obtain ⟨i1, i2, i3, i4, _⟩ := hi
  have i4 := i4 h0'
  have s1 : IntKind.i64.wrap ((l.length : Int) - ((iiF l).2.1 : Nat)) = ((l.length - (iiF l).2.1 : Nat) : Int) := by rw [i64_in _ (by omega)]; omega
  have s2 : IntKind.u64.wrap ((l.length - (iiF l).2.1 : Nat) : Int) = ((l.length - (iiF l).2.1 : Nat) : Int) := u64_in _ (by omega)
  by_cases h1 : ((l.length - (iiF l).2.1 : Nat) : Int) < (iiF l).1
  · have e : txF l = ([], 0, 4) := by unfold txF; rw [if_neg h0, if_pos h1]
    rw [e]
    simp +contextual (disch := first | (simp only [facts, clsL, clsS, clsC, isPtrD]; done) | omega | (simp only [push_nx, put_nx, del_nx]; omega) | (refine Nat.le_antisymm ?_ ?_ <;> simp only [push_nx, put_nx, del_nx] <;> omega) | fail) only [wpy, facts, wpb, cst, wpk, wpl, forall_const, implies_true, false_implies, Int.reduceLE, Int.reduceLT, Nat.reduceLeDiff, UInt8.reduceToNat, ↓reduceIte, Nat.reduceEqDiff, Nat.reduceAdd, reduceCtorEq, Int.reduceToNat, clsL, clsS, clsC, Tryz.f77, h0', a1, s1, s2, h1]
    rfl
  have e : txF l = ((l.take ((iiF l).2.1 + (iiF l).1.toNat)).drop (iiF l).2.1, (iiF l).2.1 + (iiF l).1.toNat, 0) := by unfold txF; rw [if_neg h0, if_neg h1]
  rw [e]
  have s3 : IntKind.i64.wrap (iiF l).1 = (iiF l).1 := i64_in _ (by omega)
  have s4 : IntKind.i64.wrap (((iiF l).2.1 : Int) + (iiF l).1) = (((iiF l).2.1 + (iiF l).1.toNat : Nat) : Int) := by rw [i64_in _ (by omega)]; omega
  simp +contextual (disch := first | (simp only [facts, clsL, clsS, clsC, isPtrD]; done) | omega | (simp only [push_nx, put_nx, del_nx]; omega) | (refine Nat.le_antisymm ?_ ?_ <;> simp only [push_nx, put_nx, del_nx] <;> omega) | fail) only [wpy, facts, wpb, cst, wpk, wpl, forall_const, implies_true, false_implies, Int.reduceLE, Int.reduceLT, Nat.reduceLeDiff, UInt8.reduceToNat, ↓reduceIte, Nat.reduceEqDiff, Nat.reduceAdd, reduceCtorEq, Int.reduceToNat, clsL, clsS, clsC, Tryz.f77, h0', a1, s1, s2, h1, s3, s4]
  refine mid_bs (i := (iiF l).2.1) (j := (iiF l).2.1 + (iiF l).1.toNat) a ubs szb (by simp +contextual (disch := first | (simp only [facts, clsL, clsS, clsC, isPtrD]; done) | omega | (simp only [push_nx, put_nx, del_nx]; omega) | (refine Nat.le_antisymm ?_ ?_ <;> simp only [push_nx, put_nx, del_nx] <;> omega) | fail) only [wpy, facts, wpb, cst, wpk, wpl, forall_const, implies_true, false_implies, Int.reduceLE, Int.reduceLT, Nat.reduceLeDiff, UInt8.reduceToNat, ↓reduceIte, Nat.reduceEqDiff, Nat.reduceAdd, reduceCtorEq, Int.reduceToNat, clsL, clsS, clsC]) (by simp +contextual (disch := first | (simp only [facts, clsL, clsS, clsC, isPtrD]; done) | omega | (simp only [push_nx, put_nx, del_nx]; omega) | (refine Nat.le_antisymm ?_ ?_ <;> simp only [push_nx, put_nx, del_nx] <;> omega) | fail) only [wpy, facts, wpb, cst, wpk, wpl, forall_const, implies_true, false_implies, Int.reduceLE, Int.reduceLT, Nat.reduceLeDiff, UInt8.reduceToNat, ↓reduceIte, Nat.reduceEqDiff, Nat.reduceAdd, reduceCtorEq, Int.reduceToNat, clsL, clsS, clsC]) (by simp +contextual (disch := first | (simp only [facts, clsL, clsS, clsC, isPtrD]; done) | omega | (simp only [push_nx, put_nx, del_nx]; omega) | (refine Nat.le_antisymm ?_ ?_ <;> simp only [push_nx, put_nx, del_nx] <;> omega) | fail) only [wpy, facts, wpb, cst, wpk, wpl, forall_const, implies_true, false_implies, Int.reduceLE, Int.reduceLT, Nat.reduceLeDiff, UInt8.reduceToNat, ↓reduceIte, Nat.reduceEqDiff, Nat.reduceAdd, reduceCtorEq, Int.reduceToNat, clsL, clsS, clsC]) (by omega) (by omega) fun w L hw _ _ => ?_
  obtain ⟨L2, _, hc⟩ := hw.str
  simp +contextual (disch := first | (simp only [facts, clsL, clsS, clsC, isPtrD]; done) | omega | (simp only [push_nx, put_nx, del_nx]; omega) | (refine Nat.le_antisymm ?_ ?_ <;> simp only [push_nx, put_nx, del_nx] <;> omega) | fail) only [wpy, facts, wpb, cst, wpk, wpl, forall_const, implies_true, false_implies, Int.reduceLE, Int.reduceLT, Nat.reduceLeDiff, UInt8.reduceToNat, ↓reduceIte, Nat.reduceEqDiff, Nat.reduceAdd, reduceCtorEq, Int.reduceToNat, clsL, clsS, clsC, Tryz.f77, hc, s3, s4]
end
noncomputable section
def RdR (t : TypeId) (n0 r : Nat) (R : Rd) (h h' : H) : Prop := RdS 5 t n0 r R h' ∧ But r h h'
variable {S : Set0} (hS : StdB S)
include hS
theorem step_spec {n0 r : Nat} {R : Rd} {h : H} (a : RdS 5 85 n0 r R h) (n : Nat) (e : Int) (hn : e = 0 → n ≤ R.bs.length) : callW S.cfg (· = r) 75 [.ptr r 0, .int .i64 n, .int .i64 e] h fun v h' => RdR 85 n0 r (if e ≠ 0 then ⟨R.bs, e⟩ else ⟨R.bs.drop n, R.e⟩) h h' := by
  refine into Tryz.f75 _ Tryz.func75 (hS.ownB _ (by decide)) rfl rfl (by kernel_rfl) (by kernel_rfl) ?_
  obtain ⟨⟨v, g, hb, ho⟩, hl⟩ := a
  obtain ⟨c1, c2⟩ := hb.cell
  by_cases he : e = 0
  · subst he
    simp +contextual (disch := first | (simp only [facts, clsL, clsS, clsC, isPtrD]; done) | omega | (simp only [push_nx, put_nx, del_nx]; omega) | (refine Nat.le_antisymm ?_ ?_ <;> simp only [push_nx, put_nx, del_nx] <;> omega) | fail) only [wpy, facts, wpb, cst, wpk, wpl, forall_const, implies_true, false_implies, Int.reduceLE, Int.reduceLT, Nat.reduceLeDiff, UInt8.reduceToNat, ↓reduceIte, Nat.reduceEqDiff, Nat.reduceAdd, reduceCtorEq, Int.reduceToNat, clsL, clsS, clsC, Tryz.f75, g]
    refine drop_bs (i := n) hb ubs szb (by simp +contextual (disch := first | (simp only [facts, clsL, clsS, clsC, isPtrD]; done) | omega | (simp only [push_nx, put_nx, del_nx]; omega) | (refine Nat.le_antisymm ?_ ?_ <;> simp only [push_nx, put_nx, del_nx] <;> omega) | fail) only [wpy, facts, wpb, cst, wpk, wpl, forall_const, implies_true, false_implies, Int.reduceLE, Int.reduceLT, Nat.reduceLeDiff, UInt8.reduceToNat, ↓reduceIte, Nat.reduceEqDiff, Nat.reduceAdd, reduceCtorEq, Int.reduceToNat, clsL, clsS, clsC]) (by simp +contextual (disch := first | (simp only [facts, clsL, clsS, clsC, isPtrD]; done) | omega | (simp only [push_nx, put_nx, del_nx]; omega) | (refine Nat.le_antisymm ?_ ?_ <;> simp only [push_nx, put_nx, del_nx] <;> omega) | fail) only [wpy, facts, wpb, cst, wpk, wpl, forall_const, implies_true, false_implies, Int.reduceLE, Int.reduceLT, Nat.reduceLeDiff, UInt8.reduceToNat, ↓reduceIte, Nat.reduceEqDiff, Nat.reduceAdd, reduceCtorEq, Int.reduceToNat, clsL, clsS, clsC]) (hn rfl) fun w L hw ho2 _ => ?_
    obtain ⟨d1, d2⟩ := hw.cell
    simp +contextual (disch := first | (simp only [facts, clsL, clsS, clsC, isPtrD]; done) | omega | (simp only [push_nx, put_nx, del_nx]; omega) | (refine Nat.le_antisymm ?_ ?_ <;> simp only [push_nx, put_nx, del_nx] <;> omega) | fail) only [wpy, facts, wpb, cst, wpk, wpl, forall_const, implies_true, false_implies, Int.reduceLE, Int.reduceLT, Nat.reduceLeDiff, UInt8.reduceToNat, ↓reduceIte, Nat.reduceEqDiff, Nat.reduceAdd, reduceCtorEq, Int.reduceToNat, clsL, clsS, clsC, Tryz.f75, g, d1, d2]
    exact ⟨RdS.put (R := ⟨R.bs.drop n, R.e⟩) hw (fun k hk => ho2 k (ho k hk)) hl, (But.refl r h).put _⟩
  · rw [if_pos he]
    simp +contextual (disch := first | (simp only [facts, clsL, clsS, clsC, isPtrD]; done) | omega | (simp only [push_nx, put_nx, del_nx]; omega) | (refine Nat.le_antisymm ?_ ?_ <;> simp only [push_nx, put_nx, del_nx] <;> omega) | fail) only [wpy, facts, wpb, cst, wpk, wpl, forall_const, implies_true, false_implies, Int.reduceLE, Int.reduceLT, Nat.reduceLeDiff, UInt8.reduceToNat, ↓reduceIte, Nat.reduceEqDiff, Nat.reduceAdd, reduceCtorEq, Int.reduceToNat, clsL, clsS, clsC, Tryz.f75, g, he]
    exact ⟨RdS.put (R := ⟨R.bs, e⟩) hb ho hl, (But.refl r h).put _⟩
theorem fix_spec {n0 r : Nat} {R : Rd} {h : H} (a : RdS 5 85 n0 r R h) (hl : R.bs.length < 2 ^ 62) (n : Nat) (hn : 1 ≤ n ∧ n ≤ 8) : callW S.cfg (· = r) 53 [.ptr r 0, .int .i64 n] h fun v h' => v = .int .u64 (R.fix n).1 ∧ RdR 85 n0 r (R.fix n).2 h h' := by
  refine into Tryz.f53 _ Tryz.func53 (hS.ownB _ (by decide)) rfl rfl (by kernel_rfl) (by kernel_rfl) ?_
  have a' := a
  obtain ⟨⟨v, g, hb, ho⟩, hlt⟩ := a
  obtain ⟨c1, c2⟩ := hb.cell
  by_cases he : R.e ≠ 0
  · rw [Rd.fix_err n he]
    have he' : ¬ R.e = 0 := he
    simp +contextual (disch := first | (simp only [facts, clsL, clsS, clsC, isPtrD]; done) | omega | (simp only [push_nx, put_nx, del_nx]; omega) | (refine Nat.le_antisymm ?_ ?_ <;> simp only [push_nx, put_nx, del_nx] <;> omega) | fail) only [wpy, facts, wpb, cst, wpk, wpl, forall_const, implies_true, false_implies, Int.reduceLE, Int.reduceLT, Nat.reduceLeDiff, UInt8.reduceToNat, ↓reduceIte, Nat.reduceEqDiff, Nat.reduceAdd, reduceCtorEq, Int.reduceToNat, clsL, clsS, clsC, Tryz.f53, g, he']
    exact ⟨a', But.refl r h⟩
  have he' : R.e = 0 := Classical.not_not.1 he
  simp +contextual (disch := first | (simp only [facts, clsL, clsS, clsC, isPtrD]; done) | omega | (simp only [push_nx, put_nx, del_nx]; omega) | (refine Nat.le_antisymm ?_ ?_ <;> simp only [push_nx, put_nx, del_nx] <;> omega) | fail) only [wpy, facts, wpb, cst, wpk, wpl, forall_const, implies_true, false_implies, Int.reduceLE, Int.reduceLT, Nat.reduceLeDiff, UInt8.reduceToNat, ↓reduceIte, Nat.reduceEqDiff, Nat.reduceAdd, reduceCtorEq, Int.reduceToNat, clsL, clsS, clsC, Tryz.f53, g, he']
  refine callF_exact (rfx_spec hS hb hl n hn) ?_
  simp +contextual (disch := first | (simp only [facts, clsL, clsS, clsC, isPtrD]; done) | omega | (simp only [push_nx, put_nx, del_nx]; omega) | (refine Nat.le_antisymm ?_ ?_ <;> simp only [push_nx, put_nx, del_nx] <;> omega) | fail) only [wpy, facts, wpb, cst, wpk, wpl, forall_const, implies_true, false_implies, Int.reduceLE, Int.reduceLT, Nat.reduceLeDiff, UInt8.reduceToNat, ↓reduceIte, Nat.reduceEqDiff, Nat.reduceAdd, reduceCtorEq, Int.reduceToNat, clsL, clsS, clsC, Tryz.f53, g]
  refine callF_of (step_spec hS a' n (if R.bs.length < n then 4 else 0) (fun q => by
    by_cases h5 : R.bs.length < n
    · rw [if_pos h5] at q; cases q
    · omega)) (fun k hk => .inr hk) ?_
  rintro w h' hr
  simp +contextual (disch := first | (simp only [facts, clsL, clsS, clsC, isPtrD]; done) | omega | (simp only [push_nx, put_nx, del_nx]; omega) | (refine Nat.le_antisymm ?_ ?_ <;> simp only [push_nx, put_nx, del_nx] <;> omega) | fail) only [wpy, facts, wpb, cst, wpk, wpl, forall_const, implies_true, false_implies, Int.reduceLE, Int.reduceLT, Nat.reduceLeDiff, UInt8.reduceToNat, ↓reduceIte, Nat.reduceEqDiff, Nat.reduceAdd, reduceCtorEq, Int.reduceToNat, clsL, clsS, clsC, Tryz.f53]
  unfold Rd.fix
  rw [if_neg he]
  by_cases h5 : R.bs.length < n
  · rw [if_pos h5, if_pos h5]
    rw [if_pos h5, if_pos (by decide)] at hr
    exact ⟨rfl, hr⟩
  · rw [if_neg h5, if_neg h5]
    rw [if_neg h5, if_neg (by decide), he'] at hr
    exact ⟨rfl, hr⟩
theorem cnt_spec {n0 r : Nat} {R : Rd} {h : H} (a : RdS 5 85 n0 r R h) (hl : R.bs.length < 2 ^ 62) : callW S.cfg (· = r) 52 [.ptr r 0] h fun v h' => v = .int .u64 R.cnt.1 ∧ RdR 85 n0 r R.cnt.2 h h' := by
  refine into Tryz.f52 _ Tryz.func52 (hS.ownB _ (by decide)) rfl rfl (by kernel_rfl) (by kernel_rfl) ?_
  have a' := a
  obtain ⟨⟨v, g, hb, ho⟩, hlt⟩ := a
  obtain ⟨c1, c2⟩ := hb.cell
  by_cases he : R.e ≠ 0
  · rw [Rd.cnt_err he]
    have he' : ¬ R.e = 0 := he
    simp +contextual (disch := first | (simp only [facts, clsL, clsS, clsC, isPtrD]; done) | omega | (simp only [push_nx, put_nx, del_nx]; omega) | (refine Nat.le_antisymm ?_ ?_ <;> simp only [push_nx, put_nx, del_nx] <;> omega) | fail) only [wpy, facts, wpb, cst, wpk, wpl, forall_const, implies_true, false_implies, Int.reduceLE, Int.reduceLT, Nat.reduceLeDiff, UInt8.reduceToNat, ↓reduceIte, Nat.reduceEqDiff, Nat.reduceAdd, reduceCtorEq, Int.reduceToNat, clsL, clsS, clsC, Tryz.f52, g, he']
    exact ⟨a', But.refl r h⟩
  have he' : R.e = 0 := Classical.not_not.1 he
  have hi := iiF_ok hb.1
  simp +contextual (disch := first | (simp only [facts, clsL, clsS, clsC, isPtrD]; done) | omega | (simp only [push_nx, put_nx, del_nx]; omega) | (refine Nat.le_antisymm ?_ ?_ <;> simp only [push_nx, put_nx, del_nx] <;> omega) | fail) only [wpy, facts, wpb, cst, wpk, wpl, forall_const, implies_true, false_implies, Int.reduceLE, Int.reduceLT, Nat.reduceLeDiff, UInt8.reduceToNat, ↓reduceIte, Nat.reduceEqDiff, Nat.reduceAdd, reduceCtorEq, Int.reduceToNat, clsL, clsS, clsC, Tryz.f52, g, he']
  refine callF_exact (rin_spec hS hb hl) ?_
  simp +contextual (disch := first | (simp only [facts, clsL, clsS, clsC, isPtrD]; done) | omega | (simp only [push_nx, put_nx, del_nx]; omega) | (refine Nat.le_antisymm ?_ ?_ <;> simp only [push_nx, put_nx, del_nx] <;> omega) | fail) only [wpy, facts, wpb, cst, wpk, wpl, forall_const, implies_true, false_implies, Int.reduceLE, Int.reduceLT, Nat.reduceLeDiff, UInt8.reduceToNat, ↓reduceIte, Nat.reduceEqDiff, Nat.reduceAdd, reduceCtorEq, Int.reduceToNat, clsL, clsS, clsC, Tryz.f52, g]
  refine callF_of (step_spec hS a' _ _ (fun q => hi.2.2.1)) (fun k hk => .inr hk) ?_
  rintro w h' hr
  simp +contextual (disch := first | (simp only [facts, clsL, clsS, clsC, isPtrD]; done) | omega | (simp only [push_nx, put_nx, del_nx]; omega) | (refine Nat.le_antisymm ?_ ?_ <;> simp only [push_nx, put_nx, del_nx] <;> omega) | fail) only [wpy, facts, wpb, cst, wpk, wpl, forall_const, implies_true, false_implies, Int.reduceLE, Int.reduceLT, Nat.reduceLeDiff, UInt8.reduceToNat, ↓reduceIte, Nat.reduceEqDiff, Nat.reduceAdd, reduceCtorEq, Int.reduceToNat, clsL, clsS, clsC, Tryz.f52]
  unfold Rd.cnt
  rw [if_neg he]
  refine ⟨rfl, ?_⟩
  by_cases h5 : (iiF R.bs).2.2 = 0
  · rw [if_neg (fun q => q h5), he'] at hr
    show RdR _ _ _ ⟨_, _⟩ _ _
    rw [h5]; exact hr
  · rw [if_pos h5] at hr
    show RdR _ _ _ ⟨_, _⟩ _ _
    rw [(hi.2.2.2.2.1 h5).2, List.drop_zero]; exact hr
theorem txt_spec {n0 r : Nat} {R : Rd} {h : H} (a : RdS 5 85 n0 r R h) (hl : R.bs.length < 2 ^ 62) : callW S.cfg (· = r) 57 [.ptr r 0] h fun v h' => v = .str R.txt.1 ∧ RdR 85 n0 r R.txt.2 h h' := by
  refine into Tryz.f57 _ Tryz.func57 (hS.ownB _ (by decide)) rfl rfl (by kernel_rfl) (by kernel_rfl) ?_
  have a' := a
  obtain ⟨⟨v, g, hb, ho⟩, hlt⟩ := a
  obtain ⟨c1, c2⟩ := hb.cell
  by_cases he : R.e ≠ 0
  · rw [Rd.txt_err he]
    have he' : ¬ R.e = 0 := he
    simp +contextual (disch := first | (simp only [facts, clsL, clsS, clsC, isPtrD]; done) | omega | (simp only [push_nx, put_nx, del_nx]; omega) | (refine Nat.le_antisymm ?_ ?_ <;> simp only [push_nx, put_nx, del_nx] <;> omega) | fail) only [wpy, facts, wpb, cst, wpk, wpl, forall_const, implies_true, false_implies, Int.reduceLE, Int.reduceLT, Nat.reduceLeDiff, UInt8.reduceToNat, ↓reduceIte, Nat.reduceEqDiff, Nat.reduceAdd, reduceCtorEq, Int.reduceToNat, clsL, clsS, clsC, Tryz.f57, g, he']
    exact ⟨a', But.refl r h⟩
  have he' : R.e = 0 := Classical.not_not.1 he
  have hi := txF_ok hb.1
  simp +contextual (disch := first | (simp only [facts, clsL, clsS, clsC, isPtrD]; done) | omega | (simp only [push_nx, put_nx, del_nx]; omega) | (refine Nat.le_antisymm ?_ ?_ <;> simp only [push_nx, put_nx, del_nx] <;> omega) | fail) only [wpy, facts, wpb, cst, wpk, wpl, forall_const, implies_true, false_implies, Int.reduceLE, Int.reduceLT, Nat.reduceLeDiff, UInt8.reduceToNat, ↓reduceIte, Nat.reduceEqDiff, Nat.reduceAdd, reduceCtorEq, Int.reduceToNat, clsL, clsS, clsC, Tryz.f57, g, he']
  refine callF_exact (rtx_spec hS hb hl) ?_
  simp +contextual (disch := first | (simp only [facts, clsL, clsS, clsC, isPtrD]; done) | omega | (simp only [push_nx, put_nx, del_nx]; omega) | (refine Nat.le_antisymm ?_ ?_ <;> simp only [push_nx, put_nx, del_nx] <;> omega) | fail) only [wpy, facts, wpb, cst, wpk, wpl, forall_const, implies_true, false_implies, Int.reduceLE, Int.reduceLT, Nat.reduceLeDiff, UInt8.reduceToNat, ↓reduceIte, Nat.reduceEqDiff, Nat.reduceAdd, reduceCtorEq, Int.reduceToNat, clsL, clsS, clsC, Tryz.f57, g]
  refine callF_of (step_spec hS a' _ _ (fun q => hi.1)) (fun k hk => .inr hk) ?_
  rintro w h' hr
  simp +contextual (disch := first | (simp only [facts, clsL, clsS, clsC, isPtrD]; done) | omega | (simp only [push_nx, put_nx, del_nx]; omega) | (refine Nat.le_antisymm ?_ ?_ <;> simp only [push_nx, put_nx, del_nx] <;> omega) | fail) only [wpy, facts, wpb, cst, wpk, wpl, forall_const, implies_true, false_implies, Int.reduceLE, Int.reduceLT, Nat.reduceLeDiff, UInt8.reduceToNat, ↓reduceIte, Nat.reduceEqDiff, Nat.reduceAdd, reduceCtorEq, Int.reduceToNat, clsL, clsS, clsC, Tryz.f57]
  unfold Rd.txt
  rw [if_neg he]
  refine ⟨rfl, ?_⟩
  by_cases h5 : (txF R.bs).2.2 = 0
  · rw [if_neg (fun q => q h5), he'] at hr
    show RdR _ _ _ ⟨_, _⟩ _ _
    rw [h5]; exact hr
  · rw [if_pos h5] at hr
    show RdR _ _ _ ⟨_, _⟩ _ _
    rw [(hi.2.1 h5).2, List.drop_zero]; exact hr
omit hS in
theorem nice_idxM (vs : List V) : Nice (idxM vs) := by
  unfold idxM
  repeat' (first | exact Nice.ret _ | exact Nice.err _ | exact Nice.ld _ _ _ | exact Nice.opt _ _ | refine Nice.cond ?_ ?_ | refine Nice.bnd ?_ (fun _ => ?_) | split)
omit hS in
theorem bytesOfV_bytes : ∀ {l : List Nat}, (∀ x ∈ l, x < 256) → bytesOfV (bytesV l) = some l
  | [], _ => rfl
  | x :: l, h => by
    have ih := bytesOfV_bytes (l := l) fun y hy => h y (.tail _ hy)
    have hx := h x (.head _)
    show (match byteV (.int .u8 (x : Nat)), bytesOfV (bytesV l) with
      | some n, some ns => some (n :: ns)
      | _, _ => none) = _
    have e : byteV (.int .u8 (x : Nat)) = some x := by
      have q : (x : Int) < 256 := by omega
      simp [byteV, q]
    rw [ih, e]
theorem aidx_spec {v : V} {l : List Nat} {h : H} (a : BS 5 h v l) (c : Int) (hc : 0 ≤ c ∧ c < 256) : Exact S.cfg 83 [v, .int .u8 c] h (.int .i64 (idxNats l c.toNat)) := by
  rcases a.2 with ⟨rfl, rfl⟩ | ⟨b, o, m, rfl, h1, h2, h3, h4⟩
  · exact callW_sum (s := h.st) hS.bidx (nice_idxM _) rfl LogOk_nil ⟨rfl, rfl⟩
  · refine callW_sum (s := ⟨h.heap, h.nx, [.rd b o l.length]⟩) hS.bidx (nice_idxM _) ?_ ?_ ⟨rfl, rfl⟩
    · show (bif decide (0 ≤ c) && decide (c < 256) then Lx.bnd (Lx.ld b o l.length) fun cs => Lx.bnd (Lx.opt (bytesOfV cs) "bytes") fun ns => Lx.ret (V.int .i64 (idxNats ns c.toNat)) else err "byte") ⟨h.heap, h.nx, []⟩ = _
      rw [show (decide (0 ≤ c) && decide (c < 256)) = true by simp [hc], cond_true, bnd_eq (ld_rdC (s := ⟨h.heap, h.nx, []⟩) h3), bytesOfV_bytes a.1]
      rfl
    · rw [LogOk_cons_rd]
      exact LogOk_nil
theorem bidx_spec {v : V} {l : List Nat} {h : H} (a : BS 5 h v l) (c : Int) (hc : 0 ≤ c ∧ c < 256) : Exact S.cfg 73 [v, .int .u8 c] h (.int .i64 (idxNats l c.toNat)) := by
  refine into Tryz.f73 _ Tryz.func73 (hS.ownB _ (by decide)) rfl rfl (by kernel_rfl) (by kernel_rfl) ?_
  simp +contextual (disch := first | (simp only [facts, clsL, clsS, clsC, isPtrD]; done) | omega | (simp only [push_nx, put_nx, del_nx]; omega) | (refine Nat.le_antisymm ?_ ?_ <;> simp only [push_nx, put_nx, del_nx] <;> omega) | fail) only [wpy, facts, wpb, cst, wpk, wpl, forall_const, implies_true, false_implies, Int.reduceLE, Int.reduceLT, Nat.reduceLeDiff, UInt8.reduceToNat, ↓reduceIte, Nat.reduceEqDiff, Nat.reduceAdd, reduceCtorEq, Int.reduceToNat, clsL, clsS, clsC, Tryz.f73]
  refine callF_exact (aidx_spec hS a c hc) ?_
  simp +contextual (disch := first | (simp only [facts, clsL, clsS, clsC, isPtrD]; done) | omega | (simp only [push_nx, put_nx, del_nx]; omega) | (refine Nat.le_antisymm ?_ ?_ <;> simp only [push_nx, put_nx, del_nx] <;> omega) | fail) only [wpy, facts, wpb, cst, wpk, wpl, forall_const, implies_true, false_implies, Int.reduceLE, Int.reduceLT, Nat.reduceLeDiff, UInt8.reduceToNat, ↓reduceIte, Nat.reduceEqDiff, Nat.reduceAdd, reduceCtorEq, Int.reduceToNat, clsL, clsS, clsC, Tryz.f73]
def mustF (R : Rd) (ls : List Nat) : Rd := (R.fix 1).2.bad (idxNats ls (IntKind.u8.wrap (R.fix 1).1).toNat < 0)
omit hS in
theorem u8_wrap_in (n : Int) : 0 ≤ IntKind.u8.wrap n ∧ IntKind.u8.wrap n < 256 := by
  rw [IntKind.wrap_u8]; omega
theorem must_spec {n0 r : Nat} {R : Rd} {h : H} (a : RdS 5 85 n0 r R h) (hl : R.bs.length < 2 ^ 62) {vl : V} {ls : List Nat} (al : BS 5 h vl ls) (ho : Off vl r) : callW S.cfg (· = r) 51 [.ptr r 0, vl] h fun v h' => RdR 85 n0 r (mustF R ls) h h' := by
  refine into Tryz.f51 _ Tryz.func51 (hS.ownB _ (by decide)) rfl rfl (by kernel_rfl) (by kernel_rfl) ?_
  simp +contextual (disch := first | (simp only [facts, clsL, clsS, clsC, isPtrD]; done) | omega | (simp only [push_nx, put_nx, del_nx]; omega) | (refine Nat.le_antisymm ?_ ?_ <;> simp only [push_nx, put_nx, del_nx] <;> omega) | fail) only [wpy, facts, wpb, cst, wpk, wpl, forall_const, implies_true, false_implies, Int.reduceLE, Int.reduceLT, Nat.reduceLeDiff, UInt8.reduceToNat, ↓reduceIte, Nat.reduceEqDiff, Nat.reduceAdd, reduceCtorEq, Int.reduceToNat, clsL, clsS, clsC, Tryz.f51]
  refine callF_of (fix_spec hS a hl 1 (by omega)) (fun k hk => .inr hk) ?_
  rintro w h1 ⟨rfl, a1, b1⟩
  have hu := u8_wrap_in (R.fix 1).1
  have al1 : BS 5 h1 vl ls := al.keep b1.1 fun k hk ⟨o, n, m, q⟩ => b1.2 k hk fun e => ho o n m (by rw [← e]; exact q)
  obtain ⟨⟨v, g, hb, ho1⟩, hlt⟩ := a1
  have a1 : RdS 5 85 n0 r (R.fix 1).2 h1 := ⟨⟨v, g, hb, ho1⟩, hlt⟩
  simp +contextual (disch := first | (simp only [facts, clsL, clsS, clsC, isPtrD]; done) | omega | (simp only [push_nx, put_nx, del_nx]; omega) | (refine Nat.le_antisymm ?_ ?_ <;> simp only [push_nx, put_nx, del_nx] <;> omega) | fail) only [wpy, facts, wpb, cst, wpk, wpl, forall_const, implies_true, false_implies, Int.reduceLE, Int.reduceLT, Nat.reduceLeDiff, UInt8.reduceToNat, ↓reduceIte, Nat.reduceEqDiff, Nat.reduceAdd, reduceCtorEq, Int.reduceToNat, clsL, clsS, clsC, Tryz.f51, g]
  refine gCall_exact (first := []) (cap := []) (fun _ => bidx_spec hS al1 _ hu) fun fp => ?_
  by_cases hq : (R.fix 1).2.e = 0 ∧ idxNats ls (IntKind.u8.wrap (R.fix 1).1).toNat < 0
  · have q1 := eq_true hq.1
    have q2 := hq.2
    have e : mustF R ls = ⟨(R.fix 1).2.bs, 5⟩ := Rd.bad_yes hq
    rw [e]
    simp +contextual (disch := first | (simp only [facts, clsL, clsS, clsC, isPtrD]; done) | omega | (simp only [push_nx, put_nx, del_nx]; omega) | (refine Nat.le_antisymm ?_ ?_ <;> simp only [push_nx, put_nx, del_nx] <;> omega) | fail) only [wpy, facts, wpb, cst, wpk, wpl, forall_const, implies_true, false_implies, Int.reduceLE, Int.reduceLT, Nat.reduceLeDiff, UInt8.reduceToNat, ↓reduceIte, Nat.reduceEqDiff, Nat.reduceAdd, reduceCtorEq, Int.reduceToNat, clsL, clsS, clsC, Tryz.f51, g, q1, q2]
    exact ⟨RdS.put (R := ⟨(R.fix 1).2.bs, 5⟩) hb ho1 hlt, b1.put _⟩
  · have e : mustF R ls = (R.fix 1).2 := Rd.bad_no hq
    rw [e]
    by_cases q1 : (R.fix 1).2.e = 0
    · have q2 : ¬ idxNats ls (IntKind.u8.wrap (R.fix 1).1).toNat < 0 := fun q => hq ⟨q1, q⟩
      have q1 := eq_true q1
      simp +contextual (disch := first | (simp only [facts, clsL, clsS, clsC, isPtrD]; done) | omega | (simp only [push_nx, put_nx, del_nx]; omega) | (refine Nat.le_antisymm ?_ ?_ <;> simp only [push_nx, put_nx, del_nx] <;> omega) | fail) only [wpy, facts, wpb, cst, wpk, wpl, forall_const, implies_true, false_implies, Int.reduceLE, Int.reduceLT, Nat.reduceLeDiff, UInt8.reduceToNat, ↓reduceIte, Nat.reduceEqDiff, Nat.reduceAdd, reduceCtorEq, Int.reduceToNat, clsL, clsS, clsC, Tryz.f51, g, q1, q2]
      exact ⟨a1, b1⟩
    · simp +contextual (disch := first | (simp only [facts, clsL, clsS, clsC, isPtrD]; done) | omega | (simp only [push_nx, put_nx, del_nx]; omega) | (refine Nat.le_antisymm ?_ ?_ <;> simp only [push_nx, put_nx, del_nx] <;> omega) | fail) only [wpy, facts, wpb, cst, wpk, wpl, forall_const, implies_true, false_implies, Int.reduceLE, Int.reduceLT, Nat.reduceLeDiff, UInt8.reduceToNat, ↓reduceIte, Nat.reduceEqDiff, Nat.reduceAdd, reduceCtorEq, Int.reduceToNat, clsL, clsS, clsC, Tryz.f51, g, q1]
      exact ⟨a1, b1⟩
def overF (R : Rd) : Rd := R.over
theorem over_spec {n0 r : Nat} {R : Rd} {h : H} (a : RdS 5 85 n0 r R h) : callW S.cfg (· = r) 58 [.ptr r 0] h fun v h' => v = .int .i64 (overF R).e ∧ RdR 85 n0 r (overF R) h h' := by
  refine into Tryz.f58 _ Tryz.func58 (hS.ownB _ (by decide)) rfl rfl (by kernel_rfl) (by kernel_rfl) ?_
  have a' := a
  obtain ⟨⟨v, g, hb, ho⟩, hlt⟩ := a
  have a1 := hb.len 5
  by_cases hq : R.e = 0 ∧ R.bs ≠ []
  · have q1 := eq_true hq.1
    have q2 : 0 < R.bs.length := List.length_pos_iff.2 hq.2
    have e : overF R = ⟨R.bs, 5⟩ := Rd.bad_yes hq
    rw [e]
    simp +contextual (disch := first | (simp only [facts, clsL, clsS, clsC, isPtrD]; done) | omega | (simp only [push_nx, put_nx, del_nx]; omega) | (refine Nat.le_antisymm ?_ ?_ <;> simp only [push_nx, put_nx, del_nx] <;> omega) | fail) only [wpy, facts, wpb, cst, wpk, wpl, forall_const, implies_true, false_implies, Int.reduceLE, Int.reduceLT, Nat.reduceLeDiff, UInt8.reduceToNat, ↓reduceIte, Nat.reduceEqDiff, Nat.reduceAdd, reduceCtorEq, Int.reduceToNat, clsL, clsS, clsC, Tryz.f58, g, a1, q1, q2]
    exact ⟨RdS.put (R := ⟨R.bs, 5⟩) hb ho hlt, (But.refl r h).put _⟩
  · have e : overF R = R := Rd.bad_no hq
    rw [e]
    by_cases q1 : R.e = 0
    · have q3 : R.bs = [] := Classical.not_not.1 fun q => hq ⟨q1, q⟩
      have q2 : ¬ 0 < R.bs.length := by rw [q3]; decide
      have q1 := eq_true q1
      simp +contextual (disch := first | (simp only [facts, clsL, clsS, clsC, isPtrD]; done) | omega | (simp only [push_nx, put_nx, del_nx]; omega) | (refine Nat.le_antisymm ?_ ?_ <;> simp only [push_nx, put_nx, del_nx] <;> omega) | fail) only [wpy, facts, wpb, cst, wpk, wpl, forall_const, implies_true, false_implies, Int.reduceLE, Int.reduceLT, Nat.reduceLeDiff, UInt8.reduceToNat, ↓reduceIte, Nat.reduceEqDiff, Nat.reduceAdd, reduceCtorEq, Int.reduceToNat, clsL, clsS, clsC, Tryz.f58, g, a1, q1, q2]
      exact ⟨a', But.refl r h⟩
    · simp +contextual (disch := first | (simp only [facts, clsL, clsS, clsC, isPtrD]; done) | omega | (simp only [push_nx, put_nx, del_nx]; omega) | (refine Nat.le_antisymm ?_ ?_ <;> simp only [push_nx, put_nx, del_nx] <;> omega) | fail) only [wpy, facts, wpb, cst, wpk, wpl, forall_const, implies_true, false_implies, Int.reduceLE, Int.reduceLT, Nat.reduceLeDiff, UInt8.reduceToNat, ↓reduceIte, Nat.reduceEqDiff, Nat.reduceAdd, reduceCtorEq, Int.reduceToNat, clsL, clsS, clsC, Tryz.f58, g, a1, q1]
      exact ⟨a', But.refl r h⟩
omit hS in
theorem nil_bs {lv : V} (hv : lv = .nilslice ∨ ∃ b o n m, lv = .slice b o n m) : binV Tryz.prog .eql 43 (constO (.tmp 3) || constO (.const (Value.slice none 0 0))) lv .nilslice = some (bo (lv = .nilslice)) := by
  rcases hv with rfl | ⟨b, o, n, m, rfl⟩
  · have e : binV Tryz.prog .eql 43 (constO (.tmp 3) || constO (.const (Value.slice none 0 0))) .nilslice .nilslice = some (.bool true) := by kernel_rfl
    rw [e]; simp [bo]
  · have e : binV Tryz.prog .eql 43 (constO (.tmp 3) || constO (.const (Value.slice none 0 0))) (.slice b o n m) .nilslice = some (.bool false) := by kernel_rfl
    rw [e]; simp [bo]
omit hS in
theorem isCell_bytes (l : List Nat) : (bytesV l).all V.isCell = true := by simp [bytesV, V.isCell]
omit hS in
theorem _root_.Go.Wx.Lst.off {n0 : Nat} {h : H} {v : V} {cells : List V} {e sz : Nat} (a : Lst n0 h v cells e sz) : ∀ k, k < n0 → Off v k := fun k hk o n m q => by
  rcases a with a | ⟨_, b, h0, h1, q2, _⟩
  · exact a.ne hk q
  · rw [q2] at q; cases q; omega
theorem bclone_spec {v : V} {l : List Nat} {h : H} (a : BS 5 h v l) (hl : l.length < 2 ^ 28) : Pure S.cfg 45 [v] h fun w h' => Lst h.nx h' w (bytesV l) 5 1 := by
  refine into Tryz.f45 _ Tryz.func45 (hS.ownB _ (by decide)) rfl rfl (by kernel_rfl) (by kernel_rfl) ?_
  have hn : binV Tryz.prog .eql 43 (constO (.tmp 3) || constO (.const (Value.slice none 0 0))) v .nilslice = some (bo (v = .nilslice)) := nil_bs (by
    rcases a.form with ⟨rfl, rfl⟩ | ⟨b, o, m, rfl⟩
    · exact .inl rfl
    · exact .inr ⟨_, _, _, _, rfl⟩)
  by_cases h0 : v = .nilslice
  · have hls : l = [] := by
      rcases a.form with ⟨_, q⟩ | ⟨b, o, m, q⟩
      · exact q
      · rw [h0] at q; cases q
    subst h0
    subst hls
    simp +contextual (disch := first | (simp only [facts, clsL, clsS, clsC, isPtrD]; done) | omega | (simp only [push_nx, put_nx, del_nx]; omega) | (refine Nat.le_antisymm ?_ ?_ <;> simp only [push_nx, put_nx, del_nx] <;> omega) | fail) only [wpy, facts, wpb, cst, wpk, wpl, forall_const, implies_true, false_implies, Int.reduceLE, Int.reduceLT, Nat.reduceLeDiff, UInt8.reduceToNat, ↓reduceIte, Nat.reduceEqDiff, Nat.reduceAdd, reduceCtorEq, Int.reduceToNat, clsL, clsS, clsC, Tryz.f45, hn]
    exact ⟨Ext.refl h, .inl (.inl ⟨rfl, rfl⟩)⟩
  · simp +contextual (disch := first | (simp only [facts, clsL, clsS, clsC, isPtrD]; done) | omega | (simp only [push_nx, put_nx, del_nx]; omega) | (refine Nat.le_antisymm ?_ ?_ <;> simp only [push_nx, put_nx, del_nx] <;> omega) | fail) only [wpy, facts, wpb, cst, wpk, wpl, forall_const, implies_true, false_implies, Int.reduceLE, Int.reduceLT, Nat.reduceLeDiff, UInt8.reduceToNat, ↓reduceIte, Nat.reduceEqDiff, Nat.reduceAdd, reduceCtorEq, Int.reduceToNat, clsL, clsS, clsC, Tryz.f45, hn, h0]
    generalize hhA : h.push (Ob.cells [] 5 false) = hA
    have hxA : Ext h hA := by rw [← hhA]; exact (Ext.refl h).push _
    have hgA : hA.get h.nx = some (.cells [] 5 false) := by rw [← hhA]; exact push_eq rfl
    have hnA : hA.nx = h.nx + 1 := by rw [← hhA]; rfl
    clear hhA
    refine append_lst (n0 := h.nx) (sv := .slice h.nx 0 0 0) (xv := v) (cells := []) (new := bytesV l) ?_ ?_ ap43 ⟨.slice 5, by kernel_rfl, rfl⟩ (.inr ⟨rfl, h.nx, Nat.le_refl _, by omega, rfl, hgA⟩) (a.ext hxA).src (isCell_bytes _) ?_ (by decide) (fun k hk => by rw [fresh_def]; exact .inl hk) (by omega) ?_
    · simp +contextual (disch := first | (simp only [facts, clsL, clsS, clsC, isPtrD]; done) | omega | (simp only [push_nx, put_nx, del_nx]; omega) | (refine Nat.le_antisymm ?_ ?_ <;> simp only [push_nx, put_nx, del_nx] <;> omega) | fail) only [wpy, facts, wpb, cst, wpk, wpl, forall_const, implies_true, false_implies, Int.reduceLE, Int.reduceLT, Nat.reduceLeDiff, UInt8.reduceToNat, ↓reduceIte, Nat.reduceEqDiff, Nat.reduceAdd, reduceCtorEq, Int.reduceToNat, clsL, clsS, clsC]
    · simp +contextual (disch := first | (simp only [facts, clsL, clsS, clsC, isPtrD]; done) | omega | (simp only [push_nx, put_nx, del_nx]; omega) | (refine Nat.le_antisymm ?_ ?_ <;> simp only [push_nx, put_nx, del_nx] <;> omega) | fail) only [wpy, facts, wpb, cst, wpk, wpl, forall_const, implies_true, false_implies, Int.reduceLE, Int.reduceLT, Nat.reduceLeDiff, UInt8.reduceToNat, ↓reduceIte, Nat.reduceEqDiff, Nat.reduceAdd, reduceCtorEq, Int.reduceToNat, clsL, clsS, clsC]
    · rw [bytesV_length]; simp only [List.length_nil]; omega
    intro w h1 L hl1 hn1 hk1 hf1 hL1
    simp +contextual (disch := first | (simp only [facts, clsL, clsS, clsC, isPtrD]; done) | omega | (simp only [push_nx, put_nx, del_nx]; omega) | (refine Nat.le_antisymm ?_ ?_ <;> simp only [push_nx, put_nx, del_nx] <;> omega) | fail) only [wpy, facts, wpb, cst, wpk, wpl, forall_const, implies_true, false_implies, Int.reduceLE, Int.reduceLT, Nat.reduceLeDiff, UInt8.reduceToNat, ↓reduceIte, Nat.reduceEqDiff, Nat.reduceAdd, reduceCtorEq, Int.reduceToNat, clsL, clsS, clsC, Tryz.f45]
    exact ⟨⟨by omega, fun k hk => by rw [hf1 k hk, hxA.2 k hk]⟩, hl1⟩
theorem rest_spec {n0 r : Nat} {R : Rd} {h : H} (a : RdS 5 85 n0 r R h) (hl : R.bs.length < 2 ^ 28) : callW S.cfg (· = r) 55 [.ptr r 0] h fun w h' => BS 5 h' w R.bs ∧ RdR 85 n0 r ⟨[], R.e⟩ h h' := by
  refine into Tryz.f55 _ Tryz.func55 (hS.ownB _ (by decide)) rfl rfl (by kernel_rfl) (by kernel_rfl) ?_
  obtain ⟨⟨v, g, hb, ho⟩, hlt⟩ := a
  simp +contextual (disch := first | (simp only [facts, clsL, clsS, clsC, isPtrD]; done) | omega | (simp only [push_nx, put_nx, del_nx]; omega) | (refine Nat.le_antisymm ?_ ?_ <;> simp only [push_nx, put_nx, del_nx] <;> omega) | fail) only [wpy, facts, wpb, cst, wpk, wpl, forall_const, implies_true, false_implies, Int.reduceLE, Int.reduceLT, Nat.reduceLeDiff, UInt8.reduceToNat, ↓reduceIte, Nat.reduceEqDiff, Nat.reduceAdd, reduceCtorEq, Int.reduceToNat, clsL, clsS, clsC, Tryz.f55, g]
  refine callF_pure (bclone_spec hS hb hl) ?_
  intro w h1 hx hw
  have g1 : h1.get r = some (.cells [v, .int .i64 R.e] 85 false) := by rw [hx.2 r hlt.2]; exact g
  have hlt1 : n0 ≤ r ∧ r < h1.nx := ⟨hlt.1, Nat.lt_of_lt_of_le hlt.2 hx.1⟩
  simp +contextual (disch := first | (simp only [facts, clsL, clsS, clsC, isPtrD]; done) | omega | (simp only [push_nx, put_nx, del_nx]; omega) | (refine Nat.le_antisymm ?_ ?_ <;> simp only [push_nx, put_nx, del_nx] <;> omega) | fail) only [wpy, facts, wpb, cst, wpk, wpl, forall_const, implies_true, false_implies, Int.reduceLE, Int.reduceLT, Nat.reduceLeDiff, UInt8.reduceToNat, ↓reduceIte, Nat.reduceEqDiff, Nat.reduceAdd, reduceCtorEq, Int.reduceToNat, clsL, clsS, clsC, Tryz.f55, g1]
  exact ⟨(BS.of_lst hb.1 hw).put (hw.off r hlt.2), RdS.put (R := ⟨[], R.e⟩) (BS.nil _ _) (fun _ _ _ _ _ q => by cases q) hlt1, (But.of_ext hx).put _⟩
end
noncomputable section
structure StdF (S : Set0) : Prop extends StdB S where
  ownF : ∀ f, f ∈ [80, 79, 81, 78, 59, 60, 61, 62, 66, 64, 67, 63, 65, 36, 37] → sums S.exts f = none
variable {S : Set0} (hS : StdF S)
include hS
theorem xrfx_spec {v : V} {l : List Nat} {h : H} (a : BS 5 h v l) (hl : l.length < 2 ^ 62) (n : Nat) (hn : 1 ≤ n ∧ n ≤ 8) : Exact S.cfg 80 [v, .int .i64 n] h (.tuple [.int .u64 (if l.length < n then 0 else rdX l n), .int .i64 (if l.length < n then 4 else 0)]) := by
  refine into Tryz.f80 _ Tryz.func80 (hS.ownF _ (by decide)) rfl rfl (by kernel_rfl) (by kernel_rfl) ?_
  have a1 := a.len 5
  have n1 : ¬ n < 1 := by omega
  have n2 : ¬ 8 < n := by omega
  by_cases h1 : l.length < n
  · rw [if_pos h1, if_pos h1]
    simp +contextual (disch := first | (simp only [facts, clsL, clsS, clsC, isPtrD]; done) | omega | (simp only [push_nx, put_nx, del_nx]; omega) | (refine Nat.le_antisymm ?_ ?_ <;> simp only [push_nx, put_nx, del_nx] <;> omega) | fail) only [wpy, facts, wpb, cst, wpk, wpl, forall_const, implies_true, false_implies, Int.reduceLE, Int.reduceLT, Nat.reduceLeDiff, UInt8.reduceToNat, ↓reduceIte, Nat.reduceEqDiff, Nat.reduceAdd, reduceCtorEq, Int.reduceToNat, clsL, clsS, clsC, Tryz.f80, a1, h1, n1, n2]
  rw [if_neg h1, if_neg h1]
  obtain ⟨b, o, m, rfl, _, _⟩ := a.at (i := 0) (by omega)
  obtain ⟨_, hb, hrd⟩ := a.rd
  simp +contextual (disch := first | (simp only [facts, clsL, clsS, clsC, isPtrD]; done) | omega | (simp only [push_nx, put_nx, del_nx]; omega) | (refine Nat.le_antisymm ?_ ?_ <;> simp only [push_nx, put_nx, del_nx] <;> omega) | fail) only [wpy, facts, wpb, cst, wpk, wpl, forall_const, implies_true, false_implies, Int.reduceLE, Int.reduceLT, Nat.reduceLeDiff, UInt8.reduceToNat, ↓reduceIte, Nat.reduceEqDiff, Nat.reduceAdd, reduceCtorEq, Int.reduceToNat, clsL, clsS, clsC, Tryz.f80, a1, h1, n1, n2]
  refine run_loop (fun k env h' => ∃ i : Nat, k = n - i ∧ i ≤ n ∧ env 0 = .slice b o l.length m ∧ env 1 = .int .i64 n ∧ env 7 = .int .i64 i ∧ env 6 = .int .u64 (rdX l i) ∧ h' = h) n ⟨0, ?_⟩ ?_
  · simp +contextual (disch := first | (simp only [facts, clsL, clsS, clsC, isPtrD]; done) | omega | (simp only [push_nx, put_nx, del_nx]; omega) | (refine Nat.le_antisymm ?_ ?_ <;> simp only [push_nx, put_nx, del_nx] <;> omega) | fail) only [wpy, facts, wpb, cst, wpk, wpl, forall_const, implies_true, false_implies, Int.reduceLE, Int.reduceLT, Nat.reduceLeDiff, UInt8.reduceToNat, ↓reduceIte, Nat.reduceEqDiff, Nat.reduceAdd, reduceCtorEq, Int.reduceToNat, clsL, clsS, clsC]
    exact ⟨rfl, rfl⟩
  rintro k env h' ⟨i, rfl, hi, e0, e18, e19, e6, rfl⟩
  by_cases hin : i < n
  · have hr := hrd i (by omega)
    have hby := byI_in a.1 i
    have hil : i < l.length := by omega
    have w0 : IntKind.u64.wrap (i : Int) = i := u64_in _ (by omega)
    have w1 : IntKind.u64.wrap (8 * (i : Int)) = 8 * (i : Int) := u64_in _ (by omega)
    have w2 : ¬ (8 * (i : Int) < 0) := by omega
    have w3 : IntKind.u64.wrap (byI l i) = byI l i := u64_in _ (by omega)
    simp +contextual (disch := first | (simp only [facts, clsL, clsS, clsC, isPtrD]; done) | omega | (simp only [push_nx, put_nx, del_nx]; omega) | (refine Nat.le_antisymm ?_ ?_ <;> simp only [push_nx, put_nx, del_nx] <;> omega) | fail) only [wpy, facts, wpb, cst, wpk, wpl, forall_const, implies_true, false_implies, Int.reduceLE, Int.reduceLT, Nat.reduceLeDiff, UInt8.reduceToNat, ↓reduceIte, Nat.reduceEqDiff, Nat.reduceAdd, reduceCtorEq, Int.reduceToNat, clsL, clsS, clsC, Tryz.f80, e0, e18, e19, e6, hin, hil, hr, w0, w1, w2, w3]
    exact ⟨_, by omega, i + 1, rfl, by omega, rfl, rfl⟩
  · obtain rfl : i = n := by omega
    simp +contextual (disch := first | (simp only [facts, clsL, clsS, clsC, isPtrD]; done) | omega | (simp only [push_nx, put_nx, del_nx]; omega) | (refine Nat.le_antisymm ?_ ?_ <;> simp only [push_nx, put_nx, del_nx] <;> omega) | fail) only [wpy, facts, wpb, cst, wpk, wpl, forall_const, implies_true, false_implies, Int.reduceLE, Int.reduceLT, Nat.reduceLeDiff, UInt8.reduceToNat, ↓reduceIte, Nat.reduceEqDiff, Nat.reduceAdd, reduceCtorEq, Int.reduceToNat, clsL, clsS, clsC, Tryz.f80, e0, e18, e19, e6, hin]
theorem xrin_spec {v : V} {l : List Nat} {h : H} (a : BS 5 h v l) (hl : l.length < 2 ^ 62) : Exact S.cfg 79 [v] h (.tuple [.int .u64 (iiF l).1, .int .i64 ((iiF l).2.1 : Nat), .int .i64 (iiF l).2.2]) := by
  refine into Tryz.f79 _ Tryz.func79 (hS.ownF _ (by decide)) rfl rfl (by kernel_rfl) (by kernel_rfl) ?_
  have a1 := a.len 5
  by_cases h0 : l.length = 0
  · have e : iiF l = (0, 0, 4) := by unfold iiF; rw [if_pos h0]
    rw [e]
    simp +contextual (disch := first | (simp only [facts, clsL, clsS, clsC, isPtrD]; done) | omega | (simp only [push_nx, put_nx, del_nx]; omega) | (refine Nat.le_antisymm ?_ ?_ <;> simp only [push_nx, put_nx, del_nx] <;> omega) | fail) only [wpy, facts, wpb, cst, wpk, wpl, forall_const, implies_true, false_implies, Int.reduceLE, Int.reduceLT, Nat.reduceLeDiff, UInt8.reduceToNat, ↓reduceIte, Nat.reduceEqDiff, Nat.reduceAdd, reduceCtorEq, Int.reduceToNat, clsL, clsS, clsC, Tryz.f79, a1, h0]
    rfl
  obtain ⟨b, o, m, rfl, _, _⟩ := a.at (i := 0) (by omega)
  obtain ⟨_, hb, hrd⟩ := a.rd
  have hr := hrd 0 (by omega)
  rw [Nat.add_zero] at hr
  have hby := byI_in a.1 0
  have hl0 : 0 < l.length := by omega
  have w3 : IntKind.u64.wrap (byI l 0) = byI l 0 := u64_in _ (by omega)
  have w4 : IntKind.i64.wrap (byI l 0) = byI l 0 := i64_in _ (by omega)
  have w5 : IntKind.i64.wrap (byI l 0 - 250) = byI l 0 - 250 := i64_in _ (by omega)
  by_cases h1 : byI l 0 ≤ 250
  · have e : iiF l = (byI l 0, 1, 0) := by unfold iiF; rw [if_neg h0, if_pos h1]
    rw [e]
    simp +contextual (disch := first | (simp only [facts, clsL, clsS, clsC, isPtrD]; done) | omega | (simp only [push_nx, put_nx, del_nx]; omega) | (refine Nat.le_antisymm ?_ ?_ <;> simp only [push_nx, put_nx, del_nx] <;> omega) | fail) only [wpy, facts, wpb, cst, wpk, wpl, forall_const, implies_true, false_implies, Int.reduceLE, Int.reduceLT, Nat.reduceLeDiff, UInt8.reduceToNat, ↓reduceIte, Nat.reduceEqDiff, Nat.reduceAdd, reduceCtorEq, Int.reduceToNat, clsL, clsS, clsC, Tryz.f79, a1, h0, hl0, hr, w3, h1]
    rfl
  by_cases h2 : byI l 0 = 251 ∨ byI l 0 = 255
  · have e : iiF l = (0, 0, 5) := by unfold iiF; rw [if_neg h0, if_neg h1, if_pos h2]
    rw [e]
    rcases h2 with h2 | h2
    · have h2 := eq_true h2
      simp +contextual (disch := first | (simp only [facts, clsL, clsS, clsC, isPtrD]; done) | omega | (simp only [push_nx, put_nx, del_nx]; omega) | (refine Nat.le_antisymm ?_ ?_ <;> simp only [push_nx, put_nx, del_nx] <;> omega) | fail) only [wpy, facts, wpb, cst, wpk, wpl, forall_const, implies_true, false_implies, Int.reduceLE, Int.reduceLT, Nat.reduceLeDiff, UInt8.reduceToNat, ↓reduceIte, Nat.reduceEqDiff, Nat.reduceAdd, reduceCtorEq, Int.reduceToNat, clsL, clsS, clsC, Tryz.f79, a1, h0, hl0, hr, w3, h1, h2]
      rfl
    · have n4 : ¬ byI l 0 = 251 := by omega
      have h2 := eq_true h2
      simp +contextual (disch := first | (simp only [facts, clsL, clsS, clsC, isPtrD]; done) | omega | (simp only [push_nx, put_nx, del_nx]; omega) | (refine Nat.le_antisymm ?_ ?_ <;> simp only [push_nx, put_nx, del_nx] <;> omega) | fail) only [wpy, facts, wpb, cst, wpk, wpl, forall_const, implies_true, false_implies, Int.reduceLE, Int.reduceLT, Nat.reduceLeDiff, UInt8.reduceToNat, ↓reduceIte, Nat.reduceEqDiff, Nat.reduceAdd, reduceCtorEq, Int.reduceToNat, clsL, clsS, clsC, Tryz.f79, a1, h0, hl0, hr, w3, h1, n4, h2]
      rfl
  have n4 : ¬ byI l 0 = 251 := by omega
  have n5 : ¬ byI l 0 = 255 := by omega
  have hs := iiS_in (byI l 0)
  have hd : (l.drop 1).length = l.length - 1 := List.length_drop
  have key : ∀ n : Nat, iiS (byI l 0) = n → iiF l = if l.length - 1 < n then (0, 0, 4) else (rdX (l.drop 1) n, n + 1, 0) := fun n hn => by
    unfold iiF; rw [if_neg h0, if_neg h1, if_neg h2, hn]
  by_cases c3 : byI l 0 = 254
  · rw [key 8 (by unfold iiS; rw [if_neg (by omega), if_neg (by omega)])]
    have c3 := eq_true c3
    simp +contextual (disch := first | (simp only [facts, clsL, clsS, clsC, isPtrD]; done) | omega | (simp only [push_nx, put_nx, del_nx]; omega) | (refine Nat.le_antisymm ?_ ?_ <;> simp only [push_nx, put_nx, del_nx] <;> omega) | fail) only [wpy, facts, wpb, cst, wpk, wpl, forall_const, implies_true, false_implies, Int.reduceLE, Int.reduceLT, Nat.reduceLeDiff, UInt8.reduceToNat, ↓reduceIte, Nat.reduceEqDiff, Nat.reduceAdd, reduceCtorEq, Int.reduceToNat, clsL, clsS, clsC, Tryz.f79, a1, h0, hl0, hr, w3, h1, n4, n5, w4, w5, c3]
    refine drop_bs (i := 1) a ubs szb (by simp +contextual (disch := first | (simp only [facts, clsL, clsS, clsC, isPtrD]; done) | omega | (simp only [push_nx, put_nx, del_nx]; omega) | (refine Nat.le_antisymm ?_ ?_ <;> simp only [push_nx, put_nx, del_nx] <;> omega) | fail) only [wpy, facts, wpb, cst, wpk, wpl, forall_const, implies_true, false_implies, Int.reduceLE, Int.reduceLT, Nat.reduceLeDiff, UInt8.reduceToNat, ↓reduceIte, Nat.reduceEqDiff, Nat.reduceAdd, reduceCtorEq, Int.reduceToNat, clsL, clsS, clsC]) (by simp +contextual (disch := first | (simp only [facts, clsL, clsS, clsC, isPtrD]; done) | omega | (simp only [push_nx, put_nx, del_nx]; omega) | (refine Nat.le_antisymm ?_ ?_ <;> simp only [push_nx, put_nx, del_nx] <;> omega) | fail) only [wpy, facts, wpb, cst, wpk, wpl, forall_const, implies_true, false_implies, Int.reduceLE, Int.reduceLT, Nat.reduceLeDiff, UInt8.reduceToNat, ↓reduceIte, Nat.reduceEqDiff, Nat.reduceAdd, reduceCtorEq, Int.reduceToNat, clsL, clsS, clsC]) hl0 fun w L hw _ _ => ?_
    simp +contextual (disch := first | (simp only [facts, clsL, clsS, clsC, isPtrD]; done) | omega | (simp only [push_nx, put_nx, del_nx]; omega) | (refine Nat.le_antisymm ?_ ?_ <;> simp only [push_nx, put_nx, del_nx] <;> omega) | fail) only [wpy, facts, wpb, cst, wpk, wpl, forall_const, implies_true, false_implies, Int.reduceLE, Int.reduceLT, Nat.reduceLeDiff, UInt8.reduceToNat, ↓reduceIte, Nat.reduceEqDiff, Nat.reduceAdd, reduceCtorEq, Int.reduceToNat, clsL, clsS, clsC, Tryz.f79]
    refine callF_exact (xrfx_spec hS hw (by rw [hd]; omega) 8 (by omega)) ?_
    rw [hd]
    by_cases h5 : l.length - 1 < 8
    · rw [if_pos h5]; simp +contextual (disch := first | (simp only [facts, clsL, clsS, clsC, isPtrD]; done) | omega | (simp only [push_nx, put_nx, del_nx]; omega) | (refine Nat.le_antisymm ?_ ?_ <;> simp only [push_nx, put_nx, del_nx] <;> omega) | fail) only [wpy, facts, wpb, cst, wpk, wpl, forall_const, implies_true, false_implies, Int.reduceLE, Int.reduceLT, Nat.reduceLeDiff, UInt8.reduceToNat, ↓reduceIte, Nat.reduceEqDiff, Nat.reduceAdd, reduceCtorEq, Int.reduceToNat, clsL, clsS, clsC, Tryz.f79, h5, n40]; rfl
    · rw [if_neg h5]; simp +contextual (disch := first | (simp only [facts, clsL, clsS, clsC, isPtrD]; done) | omega | (simp only [push_nx, put_nx, del_nx]; omega) | (refine Nat.le_antisymm ?_ ?_ <;> simp only [push_nx, put_nx, del_nx] <;> omega) | fail) only [wpy, facts, wpb, cst, wpk, wpl, forall_const, implies_true, false_implies, Int.reduceLE, Int.reduceLT, Nat.reduceLeDiff, UInt8.reduceToNat, ↓reduceIte, Nat.reduceEqDiff, Nat.reduceAdd, reduceCtorEq, Int.reduceToNat, clsL, clsS, clsC, Tryz.f79, h5]; rfl
  by_cases c1 : byI l 0 = 252
  · rw [key 2 (by unfold iiS; rw [if_pos c1])]
    have w6 : byI l 0 - 250 = ((2 : Nat) : Int) := by omega
    simp +contextual (disch := first | (simp only [facts, clsL, clsS, clsC, isPtrD]; done) | omega | (simp only [push_nx, put_nx, del_nx]; omega) | (refine Nat.le_antisymm ?_ ?_ <;> simp only [push_nx, put_nx, del_nx] <;> omega) | fail) only [wpy, facts, wpb, cst, wpk, wpl, forall_const, implies_true, false_implies, Int.reduceLE, Int.reduceLT, Nat.reduceLeDiff, UInt8.reduceToNat, ↓reduceIte, Nat.reduceEqDiff, Nat.reduceAdd, reduceCtorEq, Int.reduceToNat, clsL, clsS, clsC, Tryz.f79, a1, h0, hl0, hr, w3, h1, n4, n5, w4, w5, c3, w6]
    refine drop_bs (i := 1) a ubs szb (by simp +contextual (disch := first | (simp only [facts, clsL, clsS, clsC, isPtrD]; done) | omega | (simp only [push_nx, put_nx, del_nx]; omega) | (refine Nat.le_antisymm ?_ ?_ <;> simp only [push_nx, put_nx, del_nx] <;> omega) | fail) only [wpy, facts, wpb, cst, wpk, wpl, forall_const, implies_true, false_implies, Int.reduceLE, Int.reduceLT, Nat.reduceLeDiff, UInt8.reduceToNat, ↓reduceIte, Nat.reduceEqDiff, Nat.reduceAdd, reduceCtorEq, Int.reduceToNat, clsL, clsS, clsC]) (by simp +contextual (disch := first | (simp only [facts, clsL, clsS, clsC, isPtrD]; done) | omega | (simp only [push_nx, put_nx, del_nx]; omega) | (refine Nat.le_antisymm ?_ ?_ <;> simp only [push_nx, put_nx, del_nx] <;> omega) | fail) only [wpy, facts, wpb, cst, wpk, wpl, forall_const, implies_true, false_implies, Int.reduceLE, Int.reduceLT, Nat.reduceLeDiff, UInt8.reduceToNat, ↓reduceIte, Nat.reduceEqDiff, Nat.reduceAdd, reduceCtorEq, Int.reduceToNat, clsL, clsS, clsC]) hl0 fun w L hw _ _ => ?_
    simp +contextual (disch := first | (simp only [facts, clsL, clsS, clsC, isPtrD]; done) | omega | (simp only [push_nx, put_nx, del_nx]; omega) | (refine Nat.le_antisymm ?_ ?_ <;> simp only [push_nx, put_nx, del_nx] <;> omega) | fail) only [wpy, facts, wpb, cst, wpk, wpl, forall_const, implies_true, false_implies, Int.reduceLE, Int.reduceLT, Nat.reduceLeDiff, UInt8.reduceToNat, ↓reduceIte, Nat.reduceEqDiff, Nat.reduceAdd, reduceCtorEq, Int.reduceToNat, clsL, clsS, clsC, Tryz.f79]
    refine callF_exact (xrfx_spec hS hw (by rw [hd]; omega) 2 (by omega)) ?_
    rw [hd]
    by_cases h5 : l.length - 1 < 2
    · rw [if_pos h5]; simp +contextual (disch := first | (simp only [facts, clsL, clsS, clsC, isPtrD]; done) | omega | (simp only [push_nx, put_nx, del_nx]; omega) | (refine Nat.le_antisymm ?_ ?_ <;> simp only [push_nx, put_nx, del_nx] <;> omega) | fail) only [wpy, facts, wpb, cst, wpk, wpl, forall_const, implies_true, false_implies, Int.reduceLE, Int.reduceLT, Nat.reduceLeDiff, UInt8.reduceToNat, ↓reduceIte, Nat.reduceEqDiff, Nat.reduceAdd, reduceCtorEq, Int.reduceToNat, clsL, clsS, clsC, Tryz.f79, h5, n40]; rfl
    · rw [if_neg h5]; simp +contextual (disch := first | (simp only [facts, clsL, clsS, clsC, isPtrD]; done) | omega | (simp only [push_nx, put_nx, del_nx]; omega) | (refine Nat.le_antisymm ?_ ?_ <;> simp only [push_nx, put_nx, del_nx] <;> omega) | fail) only [wpy, facts, wpb, cst, wpk, wpl, forall_const, implies_true, false_implies, Int.reduceLE, Int.reduceLT, Nat.reduceLeDiff, UInt8.reduceToNat, ↓reduceIte, Nat.reduceEqDiff, Nat.reduceAdd, reduceCtorEq, Int.reduceToNat, clsL, clsS, clsC, Tryz.f79, h5]; rfl
  have c2 : byI l 0 = 253 := by omega
  rw [key 3 (by unfold iiS; rw [if_neg c1, if_pos c2])]
  have w6 : byI l 0 - 250 = ((3 : Nat) : Int) := by omega
  simp +contextual (disch := first | (simp only [facts, clsL, clsS, clsC, isPtrD]; done) | omega | (simp only [push_nx, put_nx, del_nx]; omega) | (refine Nat.le_antisymm ?_ ?_ <;> simp only [push_nx, put_nx, del_nx] <;> omega) | fail) only [wpy, facts, wpb, cst, wpk, wpl, forall_const, implies_true, false_implies, Int.reduceLE, Int.reduceLT, Nat.reduceLeDiff, UInt8.reduceToNat, ↓reduceIte, Nat.reduceEqDiff, Nat.reduceAdd, reduceCtorEq, Int.reduceToNat, clsL, clsS, clsC, Tryz.f79, a1, h0, hl0, hr, w3, h1, n4, n5, w4, w5, c3, w6]
  refine drop_bs (i := 1) a ubs szb (by simp +contextual (disch := first | (simp only [facts, clsL, clsS, clsC, isPtrD]; done) | omega | (simp only [push_nx, put_nx, del_nx]; omega) | (refine Nat.le_antisymm ?_ ?_ <;> simp only [push_nx, put_nx, del_nx] <;> omega) | fail) only [wpy, facts, wpb, cst, wpk, wpl, forall_const, implies_true, false_implies, Int.reduceLE, Int.reduceLT, Nat.reduceLeDiff, UInt8.reduceToNat, ↓reduceIte, Nat.reduceEqDiff, Nat.reduceAdd, reduceCtorEq, Int.reduceToNat, clsL, clsS, clsC]) (by simp +contextual (disch := first | (simp only [facts, clsL, clsS, clsC, isPtrD]; done) | omega | (simp only [push_nx, put_nx, del_nx]; omega) | (refine Nat.le_antisymm ?_ ?_ <;> simp only [push_nx, put_nx, del_nx] <;> omega) | fail) only [wpy, facts, wpb, cst, wpk, wpl, forall_const, implies_true, false_implies, Int.reduceLE, Int.reduceLT, Nat.reduceLeDiff, UInt8.reduceToNat, ↓reduceIte, Nat.reduceEqDiff, Nat.reduceAdd, reduceCtorEq, Int.reduceToNat, clsL, clsS, clsC]) hl0 fun w L hw _ _ => ?_
  simp +contextual (disch := first | (simp only [facts, clsL, clsS, clsC, isPtrD]; done) | omega | (simp only [push_nx, put_nx, del_nx]; omega) | (refine Nat.le_antisymm ?_ ?_ <;> simp only [push_nx, put_nx, del_nx] <;> omega) | fail) only [wpy, facts, wpb, cst, wpk, wpl, forall_const, implies_true, false_implies, Int.reduceLE, Int.reduceLT, Nat.reduceLeDiff, UInt8.reduceToNat, ↓reduceIte, Nat.reduceEqDiff, Nat.reduceAdd, reduceCtorEq, Int.reduceToNat, clsL, clsS, clsC, Tryz.f79]
  refine callF_exact (xrfx_spec hS hw (by rw [hd]; omega) 3 (by omega)) ?_
  rw [hd]
  by_cases h5 : l.length - 1 < 3
  · rw [if_pos h5]; simp +contextual (disch := first | (simp only [facts, clsL, clsS, clsC, isPtrD]; done) | omega | (simp only [push_nx, put_nx, del_nx]; omega) | (refine Nat.le_antisymm ?_ ?_ <;> simp only [push_nx, put_nx, del_nx] <;> omega) | fail) only [wpy, facts, wpb, cst, wpk, wpl, forall_const, implies_true, false_implies, Int.reduceLE, Int.reduceLT, Nat.reduceLeDiff, UInt8.reduceToNat, ↓reduceIte, Nat.reduceEqDiff, Nat.reduceAdd, reduceCtorEq, Int.reduceToNat, clsL, clsS, clsC, Tryz.f79, h5, n40]; rfl
  · rw [if_neg h5]; simp +contextual (disch := first | (simp only [facts, clsL, clsS, clsC, isPtrD]; done) | omega | (simp only [push_nx, put_nx, del_nx]; omega) | (refine Nat.le_antisymm ?_ ?_ <;> simp only [push_nx, put_nx, del_nx] <;> omega) | fail) only [wpy, facts, wpb, cst, wpk, wpl, forall_const, implies_true, false_implies, Int.reduceLE, Int.reduceLT, Nat.reduceLeDiff, UInt8.reduceToNat, ↓reduceIte, Nat.reduceEqDiff, Nat.reduceAdd, reduceCtorEq, Int.reduceToNat, clsL, clsS, clsC, Tryz.f79, h5]; rfl
theorem xrtx_spec {v : V} {l : List Nat} {h : H} (a : BS 5 h v l) (hl : l.length < 2 ^ 62) : Exact S.cfg 81 [v] h (.tuple [.str (txF l).1, .int .i64 ((txF l).2.1 : Nat), .int .i64 (txF l).2.2]) := by
  refine into Tryz.f81 _ Tryz.func81 (hS.ownF _ (by decide)) rfl rfl (by kernel_rfl) (by kernel_rfl) ?_
  have a1 := a.len 5
  have hi := iiF_ok a.1
  simp +contextual (disch := first | (simp only [facts, clsL, clsS, clsC, isPtrD]; done) | omega | (simp only [push_nx, put_nx, del_nx]; omega) | (refine Nat.le_antisymm ?_ ?_ <;> simp only [push_nx, put_nx, del_nx] <;> omega) | fail) only [wpy, facts, wpb, cst, wpk, wpl, forall_const, implies_true, false_implies, Int.reduceLE, Int.reduceLT, Nat.reduceLeDiff, UInt8.reduceToNat, ↓reduceIte, Nat.reduceEqDiff, Nat.reduceAdd, reduceCtorEq, Int.reduceToNat, clsL, clsS, clsC, Tryz.f81]
  refine callF_exact (xrin_spec hS a hl) ?_
  by_cases h0 : (iiF l).2.2 ≠ 0
  · have e : txF l = ([], 0, (iiF l).2.2) := by unfold txF; rw [if_pos h0]
    have h0' : ¬ (iiF l).2.2 = 0 := h0
    rw [e]
    simp +contextual (disch := first | (simp only [facts, clsL, clsS, clsC, isPtrD]; done) | omega | (simp only [push_nx, put_nx, del_nx]; omega) | (refine Nat.le_antisymm ?_ ?_ <;> simp only [push_nx, put_nx, del_nx] <;> omega) | fail) only [wpy, facts, wpb, cst, wpk, wpl, forall_const, implies_true, false_implies, Int.reduceLE, Int.reduceLT, Nat.reduceLeDiff, UInt8.reduceToNat, ↓reduceIte, Nat.reduceEqDiff, Nat.reduceAdd, reduceCtorEq, Int.reduceToNat, clsL, clsS, clsC, Tryz.f81, h0']
    rfl
  have h0' : (iiF l).2.2 = 0 := Classical.not_not.1 h0
  obtain ⟨i1, i2, i3, i4, _⟩ := hi
  have i4 := i4 h0'
  have s1 : IntKind.i64.wrap ((l.length : Int) - ((iiF l).2.1 : Nat)) = ((l.length - (iiF l).2.1 : Nat) : Int) := by rw [i64_in _ (by omega)]; omega
  have s2 : IntKind.u64.wrap ((l.length - (iiF l).2.1 : Nat) : Int) = ((l.length - (iiF l).2.1 : Nat) : Int) := u64_in _ (by omega)
  by_cases h1 : ((l.length - (iiF l).2.1 : Nat) : Int) < (iiF l).1
  · have e : txF l = ([], 0, 4) := by unfold txF; rw [if_neg h0, if_pos h1]
    rw [e]
    simp +contextual (disch := first | (simp only [facts, clsL, clsS, clsC, isPtrD]; done) | omega | (simp only [push_nx, put_nx, del_nx]; omega) | (refine Nat.le_antisymm ?_ ?_ <;> simp only [push_nx, put_nx, del_nx] <;> omega) | fail) only [wpy, facts, wpb, cst, wpk, wpl, forall_const, implies_true, false_implies, Int.reduceLE, Int.reduceLT, Nat.reduceLeDiff, UInt8.reduceToNat, ↓reduceIte, Nat.reduceEqDiff, Nat.reduceAdd, reduceCtorEq, Int.reduceToNat, clsL, clsS, clsC, Tryz.f81, h0', a1, s1, s2, h1]
    rfl
  have e : txF l = ((l.take ((iiF l).2.1 + (iiF l).1.toNat)).drop (iiF l).2.1, (iiF l).2.1 + (iiF l).1.toNat, 0) := by unfold txF; rw [if_neg h0, if_neg h1]
  rw [e]
  have s3 : IntKind.i64.wrap (iiF l).1 = (iiF l).1 := i64_in _ (by omega)
  have s4 : IntKind.i64.wrap (((iiF l).2.1 : Int) + (iiF l).1) = (((iiF l).2.1 + (iiF l).1.toNat : Nat) : Int) := by rw [i64_in _ (by omega)]; omega
  simp +contextual (disch := first | (simp only [facts, clsL, clsS, clsC, isPtrD]; done) | omega | (simp only [push_nx, put_nx, del_nx]; omega) | (refine Nat.le_antisymm ?_ ?_ <;> simp only [push_nx, put_nx, del_nx] <;> omega) | fail) only [wpy, facts, wpb, cst, wpk, wpl, forall_const, implies_true, false_implies, Int.reduceLE, Int.reduceLT, Nat.reduceLeDiff, UInt8.reduceToNat, ↓reduceIte, Nat.reduceEqDiff, Nat.reduceAdd, reduceCtorEq, Int.reduceToNat, clsL, clsS, clsC, Tryz.f81, h0', a1, s1, s2, h1, s3, s4]
  refine mid_bs (i := (iiF l).2.1) (j := (iiF l).2.1 + (iiF l).1.toNat) a ubs szb (by simp +contextual (disch := first | (simp only [facts, clsL, clsS, clsC, isPtrD]; done) | omega | (simp only [push_nx, put_nx, del_nx]; omega) | (refine Nat.le_antisymm ?_ ?_ <;> simp only [push_nx, put_nx, del_nx] <;> omega) | fail) only [wpy, facts, wpb, cst, wpk, wpl, forall_const, implies_true, false_implies, Int.reduceLE, Int.reduceLT, Nat.reduceLeDiff, UInt8.reduceToNat, ↓reduceIte, Nat.reduceEqDiff, Nat.reduceAdd, reduceCtorEq, Int.reduceToNat, clsL, clsS, clsC]) (by simp +contextual (disch := first | (simp only [facts, clsL, clsS, clsC, isPtrD]; done) | omega | (simp only [push_nx, put_nx, del_nx]; omega) | (refine Nat.le_antisymm ?_ ?_ <;> simp only [push_nx, put_nx, del_nx] <;> omega) | fail) only [wpy, facts, wpb, cst, wpk, wpl, forall_const, implies_true, false_implies, Int.reduceLE, Int.reduceLT, Nat.reduceLeDiff, UInt8.reduceToNat, ↓reduceIte, Nat.reduceEqDiff, Nat.reduceAdd, reduceCtorEq, Int.reduceToNat, clsL, clsS, clsC]) (by simp +contextual (disch := first | (simp only [facts, clsL, clsS, clsC, isPtrD]; done) | omega | (simp only [push_nx, put_nx, del_nx]; omega) | (refine Nat.le_antisymm ?_ ?_ <;> simp only [push_nx, put_nx, del_nx] <;> omega) | fail) only [wpy, facts, wpb, cst, wpk, wpl, forall_const, implies_true, false_implies, Int.reduceLE, Int.reduceLT, Nat.reduceLeDiff, UInt8.reduceToNat, ↓reduceIte, Nat.reduceEqDiff, Nat.reduceAdd, reduceCtorEq, Int.reduceToNat, clsL, clsS, clsC]) (by omega) (by omega) fun w L hw _ _ => ?_
  obtain ⟨L2, _, hc⟩ := hw.str
  simp +contextual (disch := first | (simp only [facts, clsL, clsS, clsC, isPtrD]; done) | omega | (simp only [push_nx, put_nx, del_nx]; omega) | (refine Nat.le_antisymm ?_ ?_ <;> simp only [push_nx, put_nx, del_nx] <;> omega) | fail) only [wpy, facts, wpb, cst, wpk, wpl, forall_const, implies_true, false_implies, Int.reduceLE, Int.reduceLT, Nat.reduceLeDiff, UInt8.reduceToNat, ↓reduceIte, Nat.reduceEqDiff, Nat.reduceAdd, reduceCtorEq, Int.reduceToNat, clsL, clsS, clsC, Tryz.f81, hc, s3, s4]
theorem mk_bytes {Ok : Nat → Prop} {env : Env} {h : H} {K : V → H → Fp → Prop} {x : Operand} {n : Nat} (hn : n ≤ 1000) (hx : evalE env x = .int .i64 n) (hK : K (.slice h.nx 0 n n) (h.push (.cells (bytesV (List.replicate n 0)) 5 false)) (.lg [.wrd h.nx])) : opW S.cfg Ok (.makeSlice 43 x x) env h K := by
  rw [opW_makeSlice, hx]
  obtain ⟨z, h0, h1, h2, h3, h4, h5⟩ := apI_inv (P := Tryz.prog) ap43
  have hz : zeroT Tryz.prog 5 = some (.int .u8 0) := by kernel_rfl
  have er : ∀ n, rep [V.int .u8 0] n = bytesV (List.replicate n 0) := fun n => by
    induction n with
    | zero => rfl
    | succ n ih => unfold rep; rw [ih]; rfl
  have e : opMakeSlice S.cfg.P 43 (.int .i64 (n : Nat)) (.int .i64 (n : Nat)) = (Lx.bnd (Lx.alloc (.cells (bytesV (List.replicate n 0)) 5 false)) fun k => Lx.ret (.slice k 0 n n)) := by
    show opMakeSlice Tryz.prog 43 (.int .i64 (.ofNat n)) (.int .i64 (.ofNat n)) = _
    unfold opMakeSlice
    rw [h0]
    simp only [h1, hz, h3]
    have hr : roomy n 1 = true := by
      unfold roomy
      simp only [Bool.and_eq_true]
      exact ⟨ble_iff.2 (by omega), rfl⟩
    rw [← er]
    simp only [ble_iff.2 (Nat.le_refl n), hr, Bool.true_and]
    rfl
  rw [e, goL_alloc, goL_ret]
  refine ⟨?_, hK⟩
  rw [LogOk_cons_wrd]
  exact ⟨.inl (Nat.le_refl _), LogOk_nil⟩
omit hS in
theorem BS.zeros {h : H} {n : Nat} (k : Nat) (hk : k = h.nx) : BS 5 (h.push (.cells (bytesV (List.replicate n 0)) 5 false)) (.slice k 0 n n) (List.replicate n 0) := by
  have hl : (List.replicate n (0 : Nat)).length = n := List.length_replicate
  refine ⟨fun x hx => by rw [(List.mem_replicate.1 hx).2]; decide, .inr ⟨k, 0, n, by rw [hl], by rw [hk]; exact Nat.lt_succ_self _, by rw [hl]; exact Nat.le_refl _, ?_, fun kc e' fl q hf => ?_⟩⟩
  · rw [push_eq hk, hl, rdC_all (by rw [bytesV_length, hl])]
  · rw [push_eq hk] at q; cases q; cases hf
theorem fbytes_spec {n0 r : Nat} {R : Rd} {h : H} (a : RdS 5 96 n0 r R h) (hl : R.bs.length < 2 ^ 28) (n : Nat) (hn : 1 ≤ n ∧ n ≤ 8) : callW S.cfg (· = r) 78 [.ptr r 0, .int .i64 n] h fun v h' => BS 5 h' v (R.take n) ∧ RdR 96 n0 r (R.fix n).2 h h' := by
  refine into Tryz.f78 _ Tryz.func78 (hS.ownF _ (by decide)) rfl rfl (by kernel_rfl) (by kernel_rfl) ?_
  have a' := a
  obtain ⟨⟨v, g, hb, ho⟩, hlt⟩ := a
  have a1 := hb.len 5
  by_cases he : R.e ≠ 0
  · rw [Rd.fix_err n he]
    have ht : R.take n = List.replicate n 0 := by unfold Rd.take; rw [Rd.fix_err n he, if_pos he]
    have he' : ¬ R.e = 0 := he
    rw [ht]
    simp +contextual (disch := first | (simp only [facts, clsL, clsS, clsC, isPtrD]; done) | omega | (simp only [push_nx, put_nx, del_nx]; omega) | (refine Nat.le_antisymm ?_ ?_ <;> simp only [push_nx, put_nx, del_nx] <;> omega) | fail) only [wpy, facts, wpb, cst, wpk, wpl, forall_const, implies_true, false_implies, Int.reduceLE, Int.reduceLT, Nat.reduceLeDiff, UInt8.reduceToNat, ↓reduceIte, Nat.reduceEqDiff, Nat.reduceAdd, reduceCtorEq, Int.reduceToNat, clsL, clsS, clsC, Tryz.f78, g, he', a1]
    refine mk_bytes hS (n := n) (by omega) (by simp +contextual (disch := first | (simp only [facts, clsL, clsS, clsC, isPtrD]; done) | omega | (simp only [push_nx, put_nx, del_nx]; omega) | (refine Nat.le_antisymm ?_ ?_ <;> simp only [push_nx, put_nx, del_nx] <;> omega) | fail) only [wpy, facts, wpb, cst, wpk, wpl, forall_const, implies_true, false_implies, Int.reduceLE, Int.reduceLT, Nat.reduceLeDiff, UInt8.reduceToNat, ↓reduceIte, Nat.reduceEqDiff, Nat.reduceAdd, reduceCtorEq, Int.reduceToNat, clsL, clsS, clsC]) ?_
    simp +contextual (disch := first | (simp only [facts, clsL, clsS, clsC, isPtrD]; done) | omega | (simp only [push_nx, put_nx, del_nx]; omega) | (refine Nat.le_antisymm ?_ ?_ <;> simp only [push_nx, put_nx, del_nx] <;> omega) | fail) only [wpy, facts, wpb, cst, wpk, wpl, forall_const, implies_true, false_implies, Int.reduceLE, Int.reduceLT, Nat.reduceLeDiff, UInt8.reduceToNat, ↓reduceIte, Nat.reduceEqDiff, Nat.reduceAdd, reduceCtorEq, Int.reduceToNat, clsL, clsS, clsC, Tryz.f78]
    exact ⟨BS.zeros _ rfl, a'.ext ((Ext.refl h).push _), But.of_ext ((Ext.refl h).push _)⟩
  have he' : R.e = 0 := Classical.not_not.1 he
  by_cases h1 : R.bs.length < n
  · have e1 : R.fix n = (0, ⟨R.bs, 4⟩) := by unfold Rd.fix; rw [if_neg he, if_pos h1]
    have ht : R.take n = List.replicate n 0 := by unfold Rd.take; rw [e1, if_pos (show (4 : Int) ≠ 0 by decide)]
    rw [e1, ht]
    simp +contextual (disch := first | (simp only [facts, clsL, clsS, clsC, isPtrD]; done) | omega | (simp only [push_nx, put_nx, del_nx]; omega) | (refine Nat.le_antisymm ?_ ?_ <;> simp only [push_nx, put_nx, del_nx] <;> omega) | fail) only [wpy, facts, wpb, cst, wpk, wpl, forall_const, implies_true, false_implies, Int.reduceLE, Int.reduceLT, Nat.reduceLeDiff, UInt8.reduceToNat, ↓reduceIte, Nat.reduceEqDiff, Nat.reduceAdd, reduceCtorEq, Int.reduceToNat, clsL, clsS, clsC, Tryz.f78, g, he', a1, h1, n40]
    refine mk_bytes hS (n := n) (by omega) (by simp +contextual (disch := first | (simp only [facts, clsL, clsS, clsC, isPtrD]; done) | omega | (simp only [push_nx, put_nx, del_nx]; omega) | (refine Nat.le_antisymm ?_ ?_ <;> simp only [push_nx, put_nx, del_nx] <;> omega) | fail) only [wpy, facts, wpb, cst, wpk, wpl, forall_const, implies_true, false_implies, Int.reduceLE, Int.reduceLT, Nat.reduceLeDiff, UInt8.reduceToNat, ↓reduceIte, Nat.reduceEqDiff, Nat.reduceAdd, reduceCtorEq, Int.reduceToNat, clsL, clsS, clsC]) ?_
    simp +contextual (disch := first | (simp only [facts, clsL, clsS, clsC, isPtrD]; done) | omega | (simp only [push_nx, put_nx, del_nx]; omega) | (refine Nat.le_antisymm ?_ ?_ <;> simp only [push_nx, put_nx, del_nx] <;> omega) | fail) only [wpy, facts, wpb, cst, wpk, wpl, forall_const, implies_true, false_implies, Int.reduceLE, Int.reduceLT, Nat.reduceLeDiff, UInt8.reduceToNat, ↓reduceIte, Nat.reduceEqDiff, Nat.reduceAdd, reduceCtorEq, Int.reduceToNat, clsL, clsS, clsC, Tryz.f78]
    have a2 : RdS 5 96 n0 r ⟨R.bs, 4⟩ (h.put r (.cells [v, .int .i64 4] 96 false)) := RdS.put (R := ⟨R.bs, 4⟩) hb ho hlt
    exact ⟨BS.zeros _ rfl, a2.ext ((Ext.refl _).push _), ((But.refl r h).put _).trans (But.of_ext ((Ext.refl _).push _))⟩
  have e1 : R.fix n = (rdX R.bs n, ⟨R.bs.drop n, 0⟩) := by unfold Rd.fix; rw [if_neg he, if_neg h1]
  have ht : R.take n = R.bs.take n := by unfold Rd.take; rw [e1, if_neg (by simp)]
  rw [e1, ht]
  simp +contextual (disch := first | (simp only [facts, clsL, clsS, clsC, isPtrD]; done) | omega | (simp only [push_nx, put_nx, del_nx]; omega) | (refine Nat.le_antisymm ?_ ?_ <;> simp only [push_nx, put_nx, del_nx] <;> omega) | fail) only [wpy, facts, wpb, cst, wpk, wpl, forall_const, implies_true, false_implies, Int.reduceLE, Int.reduceLT, Nat.reduceLeDiff, UInt8.reduceToNat, ↓reduceIte, Nat.reduceEqDiff, Nat.reduceAdd, reduceCtorEq, Int.reduceToNat, clsL, clsS, clsC, Tryz.f78, g, he', a1, h1]
  generalize hhA : h.push (Ob.cells [] 5 false) = hA
  have hxA : Ext h hA := by rw [← hhA]; exact (Ext.refl h).push _
  have hgA : hA.get h.nx = some (.cells [] 5 false) := by rw [← hhA]; exact push_eq rfl
  have hnA : hA.nx = h.nx + 1 := by rw [← hhA]; rfl
  clear hhA
  have gA : hA.get r = some (.cells [v, .int .i64 R.e] 96 false) := by rw [hxA.2 r hlt.2]; exact g
  refine take_bs (j := n) (hb.ext hxA) ubs szb (by simp +contextual (disch := first | (simp only [facts, clsL, clsS, clsC, isPtrD]; done) | omega | (simp only [push_nx, put_nx, del_nx]; omega) | (refine Nat.le_antisymm ?_ ?_ <;> simp only [push_nx, put_nx, del_nx] <;> omega) | fail) only [wpy, facts, wpb, cst, wpk, wpl, forall_const, implies_true, false_implies, Int.reduceLE, Int.reduceLT, Nat.reduceLeDiff, UInt8.reduceToNat, ↓reduceIte, Nat.reduceEqDiff, Nat.reduceAdd, reduceCtorEq, Int.reduceToNat, clsL, clsS, clsC]) (by simp +contextual (disch := first | (simp only [facts, clsL, clsS, clsC, isPtrD]; done) | omega | (simp only [push_nx, put_nx, del_nx]; omega) | (refine Nat.le_antisymm ?_ ?_ <;> simp only [push_nx, put_nx, del_nx] <;> omega) | fail) only [wpy, facts, wpb, cst, wpk, wpl, forall_const, implies_true, false_implies, Int.reduceLE, Int.reduceLT, Nat.reduceLeDiff, UInt8.reduceToNat, ↓reduceIte, Nat.reduceEqDiff, Nat.reduceAdd, reduceCtorEq, Int.reduceToNat, clsL, clsS, clsC]) (by omega) fun w1 L1 hw1 _ _ => ?_
  simp +contextual (disch := first | (simp only [facts, clsL, clsS, clsC, isPtrD]; done) | omega | (simp only [push_nx, put_nx, del_nx]; omega) | (refine Nat.le_antisymm ?_ ?_ <;> simp only [push_nx, put_nx, del_nx] <;> omega) | fail) only [wpy, facts, wpb, cst, wpk, wpl, forall_const, implies_true, false_implies, Int.reduceLE, Int.reduceLT, Nat.reduceLeDiff, UInt8.reduceToNat, ↓reduceIte, Nat.reduceEqDiff, Nat.reduceAdd, reduceCtorEq, Int.reduceToNat, clsL, clsS, clsC, Tryz.f78]
  refine append_lst (n0 := h.nx) (sv := .slice h.nx 0 0 0) (xv := w1) (cells := []) (new := bytesV (R.bs.take n)) ?_ ?_ ap43 ⟨.slice 5, by kernel_rfl, rfl⟩ (.inr ⟨rfl, h.nx, Nat.le_refl _, by omega, rfl, hgA⟩) hw1.src (isCell_bytes _) ?_ (by decide) (fun k hk => by rw [fresh_def]; exact .inl hk) (by omega) ?_
  · simp +contextual (disch := first | (simp only [facts, clsL, clsS, clsC, isPtrD]; done) | omega | (simp only [push_nx, put_nx, del_nx]; omega) | (refine Nat.le_antisymm ?_ ?_ <;> simp only [push_nx, put_nx, del_nx] <;> omega) | fail) only [wpy, facts, wpb, cst, wpk, wpl, forall_const, implies_true, false_implies, Int.reduceLE, Int.reduceLT, Nat.reduceLeDiff, UInt8.reduceToNat, ↓reduceIte, Nat.reduceEqDiff, Nat.reduceAdd, reduceCtorEq, Int.reduceToNat, clsL, clsS, clsC]
  · simp +contextual (disch := first | (simp only [facts, clsL, clsS, clsC, isPtrD]; done) | omega | (simp only [push_nx, put_nx, del_nx]; omega) | (refine Nat.le_antisymm ?_ ?_ <;> simp only [push_nx, put_nx, del_nx] <;> omega) | fail) only [wpy, facts, wpb, cst, wpk, wpl, forall_const, implies_true, false_implies, Int.reduceLE, Int.reduceLT, Nat.reduceLeDiff, UInt8.reduceToNat, ↓reduceIte, Nat.reduceEqDiff, Nat.reduceAdd, reduceCtorEq, Int.reduceToNat, clsL, clsS, clsC]
  · rw [bytesV_length, List.length_take]; simp only [List.length_nil]; omega
  intro w h2 L hl2 hn2 hk2 hf2 hL2
  have hx2 : Ext h h2 := ⟨by omega, fun k hk => by rw [hf2 k hk, hxA.2 k hk]⟩
  have g2 : h2.get r = some (.cells [v, .int .i64 R.e] 96 false) := by rw [hx2.2 r hlt.2]; exact g
  have hlt2 : n0 ≤ r ∧ r < h2.nx := ⟨hlt.1, Nat.lt_of_lt_of_le hlt.2 hx2.1⟩
  simp +contextual (disch := first | (simp only [facts, clsL, clsS, clsC, isPtrD]; done) | omega | (simp only [push_nx, put_nx, del_nx]; omega) | (refine Nat.le_antisymm ?_ ?_ <;> simp only [push_nx, put_nx, del_nx] <;> omega) | fail) only [wpy, facts, wpb, cst, wpk, wpl, forall_const, implies_true, false_implies, Int.reduceLE, Int.reduceLT, Nat.reduceLeDiff, UInt8.reduceToNat, ↓reduceIte, Nat.reduceEqDiff, Nat.reduceAdd, reduceCtorEq, Int.reduceToNat, clsL, clsS, clsC, Tryz.f78, g2]
  refine drop_bs (i := n) (hb.ext hx2) ubs szb (by simp +contextual (disch := first | (simp only [facts, clsL, clsS, clsC, isPtrD]; done) | omega | (simp only [push_nx, put_nx, del_nx]; omega) | (refine Nat.le_antisymm ?_ ?_ <;> simp only [push_nx, put_nx, del_nx] <;> omega) | fail) only [wpy, facts, wpb, cst, wpk, wpl, forall_const, implies_true, false_implies, Int.reduceLE, Int.reduceLT, Nat.reduceLeDiff, UInt8.reduceToNat, ↓reduceIte, Nat.reduceEqDiff, Nat.reduceAdd, reduceCtorEq, Int.reduceToNat, clsL, clsS, clsC]) (by simp +contextual (disch := first | (simp only [facts, clsL, clsS, clsC, isPtrD]; done) | omega | (simp only [push_nx, put_nx, del_nx]; omega) | (refine Nat.le_antisymm ?_ ?_ <;> simp only [push_nx, put_nx, del_nx] <;> omega) | fail) only [wpy, facts, wpb, cst, wpk, wpl, forall_const, implies_true, false_implies, Int.reduceLE, Int.reduceLT, Nat.reduceLeDiff, UInt8.reduceToNat, ↓reduceIte, Nat.reduceEqDiff, Nat.reduceAdd, reduceCtorEq, Int.reduceToNat, clsL, clsS, clsC]) (by omega) fun w3 L3 hw3 ho3 _ => ?_
  obtain ⟨d1, d2⟩ := hw3.cell
  simp +contextual (disch := first | (simp only [facts, clsL, clsS, clsC, isPtrD]; done) | omega | (simp only [push_nx, put_nx, del_nx]; omega) | (refine Nat.le_antisymm ?_ ?_ <;> simp only [push_nx, put_nx, del_nx] <;> omega) | fail) only [wpy, facts, wpb, cst, wpk, wpl, forall_const, implies_true, false_implies, Int.reduceLE, Int.reduceLT, Nat.reduceLeDiff, UInt8.reduceToNat, ↓reduceIte, Nat.reduceEqDiff, Nat.reduceAdd, reduceCtorEq, Int.reduceToNat, clsL, clsS, clsC, Tryz.f78, g2, d1, d2]
  refine ⟨(BS.of_lst hw1.1 hl2).put (hl2.off r hlt.2), ?_, (But.of_ext hx2).put _⟩
  have := RdS.put (e := 5) (t := 96) (R := ⟨R.bs.drop n, R.e⟩) hw3 (fun k hk => ho3 k (ho k hk)) hlt2
  rw [he'] at this ⊢
  exact this
theorem fbyte_spec {n0 r : Nat} {R : Rd} {h : H} (a : RdS 5 96 n0 r R h) (hl : R.bs.length < 2 ^ 28) : callW S.cfg (· = r) 59 [.ptr r 0] h fun v h' => v = .int .u8 R.byt.1 ∧ RdR 96 n0 r R.byt.2 h h' := by
  refine into Tryz.f59 _ Tryz.func59 (hS.ownF _ (by decide)) rfl rfl (by kernel_rfl) (by kernel_rfl) ?_
  have hbs : ∀ x ∈ R.bs, x < 256 := a.cell.choose_spec.2.1.1
  simp +contextual (disch := first | (simp only [facts, clsL, clsS, clsC, isPtrD]; done) | omega | (simp only [push_nx, put_nx, del_nx]; omega) | (refine Nat.le_antisymm ?_ ?_ <;> simp only [push_nx, put_nx, del_nx] <;> omega) | fail) only [wpy, facts, wpb, cst, wpk, wpl, forall_const, implies_true, false_implies, Int.reduceLE, Int.reduceLT, Nat.reduceLeDiff, UInt8.reduceToNat, ↓reduceIte, Nat.reduceEqDiff, Nat.reduceAdd, reduceCtorEq, Int.reduceToNat, clsL, clsS, clsC, Tryz.f59]
  refine callF_of (fbytes_spec hS a hl 1 (by omega)) (fun k hk => .inr hk) ?_
  rintro w h1 ⟨hw, hr⟩
  have h0 : 0 < (R.take 1).length := by rw [Rd.take_len]; decide
  obtain ⟨b, o, m, rfl, _, _⟩ := hw.at (i := 0) h0
  obtain ⟨_, hb, hrd⟩ := hw.rd
  have hr0 := hrd 0 h0
  rw [Nat.add_zero, Rd.take_byt] at hr0
  rw [(Rd.byt_fix hbs).2] at hr
  simp +contextual (disch := first | (simp only [facts, clsL, clsS, clsC, isPtrD]; done) | omega | (simp only [push_nx, put_nx, del_nx]; omega) | (refine Nat.le_antisymm ?_ ?_ <;> simp only [push_nx, put_nx, del_nx] <;> omega) | fail) only [wpy, facts, wpb, cst, wpk, wpl, forall_const, implies_true, false_implies, Int.reduceLE, Int.reduceLT, Nat.reduceLeDiff, UInt8.reduceToNat, ↓reduceIte, Nat.reduceEqDiff, Nat.reduceAdd, reduceCtorEq, Int.reduceToNat, clsL, clsS, clsC, Tryz.f59, h0, hr0]
  exact hr
theorem fwrong_spec {n0 r : Nat} {R : Rd} {h : H} (a : RdS 5 96 n0 r R h) (p : Prop) : callW S.cfg (· = r) 60 [.ptr r 0, bo p] h fun v h' => RdR 96 n0 r (R.bad p) h h' := by
  refine into Tryz.f60 _ Tryz.func60 (hS.ownF _ (by decide)) rfl rfl (by kernel_rfl) (by kernel_rfl) ?_
  have a' := a
  obtain ⟨⟨v, g, hb, ho⟩, hlt⟩ := a
  by_cases hq : R.e = 0 ∧ p
  · have q1 := eq_true hq.1
    have q2 := hq.2
    rw [Rd.bad_yes hq]
    simp +contextual (disch := first | (simp only [facts, clsL, clsS, clsC, isPtrD]; done) | omega | (simp only [push_nx, put_nx, del_nx]; omega) | (refine Nat.le_antisymm ?_ ?_ <;> simp only [push_nx, put_nx, del_nx] <;> omega) | fail) only [wpy, facts, wpb, cst, wpk, wpl, forall_const, implies_true, false_implies, Int.reduceLE, Int.reduceLT, Nat.reduceLeDiff, UInt8.reduceToNat, ↓reduceIte, Nat.reduceEqDiff, Nat.reduceAdd, reduceCtorEq, Int.reduceToNat, clsL, clsS, clsC, Tryz.f60, g, q1, q2]
    exact ⟨RdS.put (R := ⟨R.bs, 5⟩) hb ho hlt, (But.refl r h).put _⟩
  · rw [Rd.bad_no hq]
    by_cases q1 : R.e = 0
    · have q2 : ¬ p := fun q => hq ⟨q1, q⟩
      have q1 := eq_true q1
      simp +contextual (disch := first | (simp only [facts, clsL, clsS, clsC, isPtrD]; done) | omega | (simp only [push_nx, put_nx, del_nx]; omega) | (refine Nat.le_antisymm ?_ ?_ <;> simp only [push_nx, put_nx, del_nx] <;> omega) | fail) only [wpy, facts, wpb, cst, wpk, wpl, forall_const, implies_true, false_implies, Int.reduceLE, Int.reduceLT, Nat.reduceLeDiff, UInt8.reduceToNat, ↓reduceIte, Nat.reduceEqDiff, Nat.reduceAdd, reduceCtorEq, Int.reduceToNat, clsL, clsS, clsC, Tryz.f60, g, q1, q2]
      exact ⟨a', But.refl r h⟩
    · simp +contextual (disch := first | (simp only [facts, clsL, clsS, clsC, isPtrD]; done) | omega | (simp only [push_nx, put_nx, del_nx]; omega) | (refine Nat.le_antisymm ?_ ?_ <;> simp only [push_nx, put_nx, del_nx] <;> omega) | fail) only [wpy, facts, wpb, cst, wpk, wpl, forall_const, implies_true, false_implies, Int.reduceLE, Int.reduceLT, Nat.reduceLeDiff, UInt8.reduceToNat, ↓reduceIte, Nat.reduceEqDiff, Nat.reduceAdd, reduceCtorEq, Int.reduceToNat, clsL, clsS, clsC, Tryz.f60, g, q1]
      exact ⟨a', But.refl r h⟩
theorem fdone_spec {n0 r : Nat} {R : Rd} {h : H} (a : RdS 5 96 n0 r R h) : callW S.cfg (· = r) 67 [.ptr r 0] h fun v h' => v = .int .i64 (overF R).e ∧ RdR 96 n0 r (overF R) h h' := by
  refine into Tryz.f67 _ Tryz.func67 (hS.ownF _ (by decide)) rfl rfl (by kernel_rfl) (by kernel_rfl) ?_
  have a' := a
  obtain ⟨⟨v, g, hb, ho⟩, hlt⟩ := a
  have a1 := hb.len 5
  simp +contextual (disch := first | (simp only [facts, clsL, clsS, clsC, isPtrD]; done) | omega | (simp only [push_nx, put_nx, del_nx]; omega) | (refine Nat.le_antisymm ?_ ?_ <;> simp only [push_nx, put_nx, del_nx] <;> omega) | fail) only [wpy, facts, wpb, cst, wpk, wpl, forall_const, implies_true, false_implies, Int.reduceLE, Int.reduceLT, Nat.reduceLeDiff, UInt8.reduceToNat, ↓reduceIte, Nat.reduceEqDiff, Nat.reduceAdd, reduceCtorEq, Int.reduceToNat, clsL, clsS, clsC, Tryz.f67, g, a1]
  have e : R.bad (0 < R.bs.length) = overF R := by
    unfold overF Rd.over
    rw [show (0 < R.bs.length) = (R.bs ≠ []) from propext List.length_pos_iff]
  refine callF_of (fwrong_spec hS a' (0 < R.bs.length)) (fun k hk => .inr hk) ?_
  rintro w h1 hr
  rw [e] at hr
  obtain ⟨⟨v1, g1, hb1, ho1⟩, hlt1⟩ := hr.1
  simp +contextual (disch := first | (simp only [facts, clsL, clsS, clsC, isPtrD]; done) | omega | (simp only [push_nx, put_nx, del_nx]; omega) | (refine Nat.le_antisymm ?_ ?_ <;> simp only [push_nx, put_nx, del_nx] <;> omega) | fail) only [wpy, facts, wpb, cst, wpk, wpl, forall_const, implies_true, false_implies, Int.reduceLE, Int.reduceLT, Nat.reduceLeDiff, UInt8.reduceToNat, ↓reduceIte, Nat.reduceEqDiff, Nat.reduceAdd, reduceCtorEq, Int.reduceToNat, clsL, clsS, clsC, Tryz.f67, g1]
  exact hr
theorem ffixed_spec {n0 r : Nat} {R : Rd} {h : H} (a : RdS 5 96 n0 r R h) (hl : R.bs.length < 2 ^ 28) (n : Nat) (hn : 1 ≤ n ∧ n ≤ 8) : callW S.cfg (· = r) 62 [.ptr r 0, .int .i64 n] h fun v h' => v = .int .u64 (R.fix n).1 ∧ RdR 96 n0 r (R.fix n).2 h h' := by
  refine into Tryz.f62 _ Tryz.func62 (hS.ownF _ (by decide)) rfl rfl (by kernel_rfl) (by kernel_rfl) ?_
  simp +contextual (disch := first | (simp only [facts, clsL, clsS, clsC, isPtrD]; done) | omega | (simp only [push_nx, put_nx, del_nx]; omega) | (refine Nat.le_antisymm ?_ ?_ <;> simp only [push_nx, put_nx, del_nx] <;> omega) | fail) only [wpy, facts, wpb, cst, wpk, wpl, forall_const, implies_true, false_implies, Int.reduceLE, Int.reduceLT, Nat.reduceLeDiff, UInt8.reduceToNat, ↓reduceIte, Nat.reduceEqDiff, Nat.reduceAdd, reduceCtorEq, Int.reduceToNat, clsL, clsS, clsC, Tryz.f62]
  refine callF_of (fbytes_spec hS a hl n hn) (fun k hk => .inr hk) ?_
  rintro w h1 ⟨hw, hr⟩
  simp +contextual (disch := first | (simp only [facts, clsL, clsS, clsC, isPtrD]; done) | omega | (simp only [push_nx, put_nx, del_nx]; omega) | (refine Nat.le_antisymm ?_ ?_ <;> simp only [push_nx, put_nx, del_nx] <;> omega) | fail) only [wpy, facts, wpb, cst, wpk, wpl, forall_const, implies_true, false_implies, Int.reduceLE, Int.reduceLT, Nat.reduceLeDiff, UInt8.reduceToNat, ↓reduceIte, Nat.reduceEqDiff, Nat.reduceAdd, reduceCtorEq, Int.reduceToNat, clsL, clsS, clsC, Tryz.f62]
  refine callF_exact (xrfx_spec hS hw (by rw [Rd.take_len]; omega) n hn) ?_
  rw [Rd.take_len, if_neg (Nat.lt_irrefl n), if_neg (Nat.lt_irrefl n), Rd.take_fix]
  simp +contextual (disch := first | (simp only [facts, clsL, clsS, clsC, isPtrD]; done) | omega | (simp only [push_nx, put_nx, del_nx]; omega) | (refine Nat.le_antisymm ?_ ?_ <;> simp only [push_nx, put_nx, del_nx] <;> omega) | fail) only [wpy, facts, wpb, cst, wpk, wpl, forall_const, implies_true, false_implies, Int.reduceLE, Int.reduceLT, Nat.reduceLeDiff, UInt8.reduceToNat, ↓reduceIte, Nat.reduceEqDiff, Nat.reduceAdd, reduceCtorEq, Int.reduceToNat, clsL, clsS, clsC, Tryz.f62]
  exact hr
theorem fint_spec {n0 r : Nat} {R : Rd} {h : H} (a : RdS 5 96 n0 r R h) (hl : R.bs.length < 2 ^ 28) : callW S.cfg (· = r) 61 [.ptr r 0] h fun v h' => v = .int .u64 R.cnt.1 ∧ RdR 96 n0 r R.cnt.2 h h' := by
  refine into Tryz.f61 _ Tryz.func61 (hS.ownF _ (by decide)) rfl rfl (by kernel_rfl) (by kernel_rfl) ?_
  have a' := a
  obtain ⟨⟨v, g, hb, ho⟩, hlt⟩ := a
  obtain ⟨c1, c2⟩ := hb.cell
  by_cases he : R.e ≠ 0
  · rw [Rd.cnt_err he]
    have he' : ¬ R.e = 0 := he
    simp +contextual (disch := first | (simp only [facts, clsL, clsS, clsC, isPtrD]; done) | omega | (simp only [push_nx, put_nx, del_nx]; omega) | (refine Nat.le_antisymm ?_ ?_ <;> simp only [push_nx, put_nx, del_nx] <;> omega) | fail) only [wpy, facts, wpb, cst, wpk, wpl, forall_const, implies_true, false_implies, Int.reduceLE, Int.reduceLT, Nat.reduceLeDiff, UInt8.reduceToNat, ↓reduceIte, Nat.reduceEqDiff, Nat.reduceAdd, reduceCtorEq, Int.reduceToNat, clsL, clsS, clsC, Tryz.f61, g, he']
    exact ⟨a', But.refl r h⟩
  have he' : R.e = 0 := Classical.not_not.1 he
  have hi := iiF_ok hb.1
  simp +contextual (disch := first | (simp only [facts, clsL, clsS, clsC, isPtrD]; done) | omega | (simp only [push_nx, put_nx, del_nx]; omega) | (refine Nat.le_antisymm ?_ ?_ <;> simp only [push_nx, put_nx, del_nx] <;> omega) | fail) only [wpy, facts, wpb, cst, wpk, wpl, forall_const, implies_true, false_implies, Int.reduceLE, Int.reduceLT, Nat.reduceLeDiff, UInt8.reduceToNat, ↓reduceIte, Nat.reduceEqDiff, Nat.reduceAdd, reduceCtorEq, Int.reduceToNat, clsL, clsS, clsC, Tryz.f61, g, he']
  refine callF_exact (xrin_spec hS hb (by omega)) ?_
  simp +contextual (disch := first | (simp only [facts, clsL, clsS, clsC, isPtrD]; done) | omega | (simp only [push_nx, put_nx, del_nx]; omega) | (refine Nat.le_antisymm ?_ ?_ <;> simp only [push_nx, put_nx, del_nx] <;> omega) | fail) only [wpy, facts, wpb, cst, wpk, wpl, forall_const, implies_true, false_implies, Int.reduceLE, Int.reduceLT, Nat.reduceLeDiff, UInt8.reduceToNat, ↓reduceIte, Nat.reduceEqDiff, Nat.reduceAdd, reduceCtorEq, Int.reduceToNat, clsL, clsS, clsC, Tryz.f61, g]
  have g1 : (h.put r (Ob.cells [v, .int .i64 (iiF R.bs).2.2] 96 false)).get r = some (.cells [v, .int .i64 (iiF R.bs).2.2] 96 false) := put_eq rfl
  refine drop_bs (i := (iiF R.bs).2.1) (hb.put (ho r hlt.1)) ubs szb (by simp +contextual (disch := first | (simp only [facts, clsL, clsS, clsC, isPtrD]; done) | omega | (simp only [push_nx, put_nx, del_nx]; omega) | (refine Nat.le_antisymm ?_ ?_ <;> simp only [push_nx, put_nx, del_nx] <;> omega) | fail) only [wpy, facts, wpb, cst, wpk, wpl, forall_const, implies_true, false_implies, Int.reduceLE, Int.reduceLT, Nat.reduceLeDiff, UInt8.reduceToNat, ↓reduceIte, Nat.reduceEqDiff, Nat.reduceAdd, reduceCtorEq, Int.reduceToNat, clsL, clsS, clsC]) (by simp +contextual (disch := first | (simp only [facts, clsL, clsS, clsC, isPtrD]; done) | omega | (simp only [push_nx, put_nx, del_nx]; omega) | (refine Nat.le_antisymm ?_ ?_ <;> simp only [push_nx, put_nx, del_nx] <;> omega) | fail) only [wpy, facts, wpb, cst, wpk, wpl, forall_const, implies_true, false_implies, Int.reduceLE, Int.reduceLT, Nat.reduceLeDiff, UInt8.reduceToNat, ↓reduceIte, Nat.reduceEqDiff, Nat.reduceAdd, reduceCtorEq, Int.reduceToNat, clsL, clsS, clsC]) hi.2.2.1 fun w3 L3 hw3 ho3 _ => ?_
  obtain ⟨d1, d2⟩ := hw3.cell
  simp +contextual (disch := first | (simp only [facts, clsL, clsS, clsC, isPtrD]; done) | omega | (simp only [push_nx, put_nx, del_nx]; omega) | (refine Nat.le_antisymm ?_ ?_ <;> simp only [push_nx, put_nx, del_nx] <;> omega) | fail) only [wpy, facts, wpb, cst, wpk, wpl, forall_const, implies_true, false_implies, Int.reduceLE, Int.reduceLT, Nat.reduceLeDiff, UInt8.reduceToNat, ↓reduceIte, Nat.reduceEqDiff, Nat.reduceAdd, reduceCtorEq, Int.reduceToNat, clsL, clsS, clsC, Tryz.f61, g1, d1, d2]
  unfold Rd.cnt
  rw [if_neg he]
  exact ⟨rfl, RdS.put (R := ⟨R.bs.drop (iiF R.bs).2.1, (iiF R.bs).2.2⟩) hw3 (fun k hk => ho3 k (ho k hk)) hlt, ((But.refl r h).put _).put _⟩
theorem ftext_spec {n0 r : Nat} {R : Rd} {h : H} (a : RdS 5 96 n0 r R h) (hl : R.bs.length < 2 ^ 28) : callW S.cfg (· = r) 66 [.ptr r 0] h fun v h' => v = .str R.txt.1 ∧ RdR 96 n0 r R.txt.2 h h' := by
  refine into Tryz.f66 _ Tryz.func66 (hS.ownF _ (by decide)) rfl rfl (by kernel_rfl) (by kernel_rfl) ?_
  have a' := a
  obtain ⟨⟨v, g, hb, ho⟩, hlt⟩ := a
  obtain ⟨c1, c2⟩ := hb.cell
  by_cases he : R.e ≠ 0
  · rw [Rd.txt_err he]
    have he' : ¬ R.e = 0 := he
    simp +contextual (disch := first | (simp only [facts, clsL, clsS, clsC, isPtrD]; done) | omega | (simp only [push_nx, put_nx, del_nx]; omega) | (refine Nat.le_antisymm ?_ ?_ <;> simp only [push_nx, put_nx, del_nx] <;> omega) | fail) only [wpy, facts, wpb, cst, wpk, wpl, forall_const, implies_true, false_implies, Int.reduceLE, Int.reduceLT, Nat.reduceLeDiff, UInt8.reduceToNat, ↓reduceIte, Nat.reduceEqDiff, Nat.reduceAdd, reduceCtorEq, Int.reduceToNat, clsL, clsS, clsC, Tryz.f66, g, he']
    exact ⟨a', But.refl r h⟩
  have he' : R.e = 0 := Classical.not_not.1 he
  have hi := txF_ok hb.1
  simp +contextual (disch := first | (simp only [facts, clsL, clsS, clsC, isPtrD]; done) | omega | (simp only [push_nx, put_nx, del_nx]; omega) | (refine Nat.le_antisymm ?_ ?_ <;> simp only [push_nx, put_nx, del_nx] <;> omega) | fail) only [wpy, facts, wpb, cst, wpk, wpl, forall_const, implies_true, false_implies, Int.reduceLE, Int.reduceLT, Nat.reduceLeDiff, UInt8.reduceToNat, ↓reduceIte, Nat.reduceEqDiff, Nat.reduceAdd, reduceCtorEq, Int.reduceToNat, clsL, clsS, clsC, Tryz.f66, g, he']
  refine callF_exact (xrtx_spec hS hb (by omega)) ?_
  simp +contextual (disch := first | (simp only [facts, clsL, clsS, clsC, isPtrD]; done) | omega | (simp only [push_nx, put_nx, del_nx]; omega) | (refine Nat.le_antisymm ?_ ?_ <;> simp only [push_nx, put_nx, del_nx] <;> omega) | fail) only [wpy, facts, wpb, cst, wpk, wpl, forall_const, implies_true, false_implies, Int.reduceLE, Int.reduceLT, Nat.reduceLeDiff, UInt8.reduceToNat, ↓reduceIte, Nat.reduceEqDiff, Nat.reduceAdd, reduceCtorEq, Int.reduceToNat, clsL, clsS, clsC, Tryz.f66, g]
  have g1 : (h.put r (Ob.cells [v, .int .i64 (txF R.bs).2.2] 96 false)).get r = some (.cells [v, .int .i64 (txF R.bs).2.2] 96 false) := put_eq rfl
  refine drop_bs (i := (txF R.bs).2.1) (hb.put (ho r hlt.1)) ubs szb (by simp +contextual (disch := first | (simp only [facts, clsL, clsS, clsC, isPtrD]; done) | omega | (simp only [push_nx, put_nx, del_nx]; omega) | (refine Nat.le_antisymm ?_ ?_ <;> simp only [push_nx, put_nx, del_nx] <;> omega) | fail) only [wpy, facts, wpb, cst, wpk, wpl, forall_const, implies_true, false_implies, Int.reduceLE, Int.reduceLT, Nat.reduceLeDiff, UInt8.reduceToNat, ↓reduceIte, Nat.reduceEqDiff, Nat.reduceAdd, reduceCtorEq, Int.reduceToNat, clsL, clsS, clsC]) (by simp +contextual (disch := first | (simp only [facts, clsL, clsS, clsC, isPtrD]; done) | omega | (simp only [push_nx, put_nx, del_nx]; omega) | (refine Nat.le_antisymm ?_ ?_ <;> simp only [push_nx, put_nx, del_nx] <;> omega) | fail) only [wpy, facts, wpb, cst, wpk, wpl, forall_const, implies_true, false_implies, Int.reduceLE, Int.reduceLT, Nat.reduceLeDiff, UInt8.reduceToNat, ↓reduceIte, Nat.reduceEqDiff, Nat.reduceAdd, reduceCtorEq, Int.reduceToNat, clsL, clsS, clsC]) hi.1 fun w3 L3 hw3 ho3 _ => ?_
  obtain ⟨d1, d2⟩ := hw3.cell
  simp +contextual (disch := first | (simp only [facts, clsL, clsS, clsC, isPtrD]; done) | omega | (simp only [push_nx, put_nx, del_nx]; omega) | (refine Nat.le_antisymm ?_ ?_ <;> simp only [push_nx, put_nx, del_nx] <;> omega) | fail) only [wpy, facts, wpb, cst, wpk, wpl, forall_const, implies_true, false_implies, Int.reduceLE, Int.reduceLT, Nat.reduceLeDiff, UInt8.reduceToNat, ↓reduceIte, Nat.reduceEqDiff, Nat.reduceAdd, reduceCtorEq, Int.reduceToNat, clsL, clsS, clsC, Tryz.f66, g1, d1, d2]
  unfold Rd.txt
  rw [if_neg he]
  exact ⟨rfl, RdS.put (R := ⟨R.bs.drop (txF R.bs).2.1, (txF R.bs).2.2⟩) hw3 (fun k hk => ho3 k (ho k hk)) hlt, ((But.refl r h).put _).put _⟩
theorem frest_spec {n0 r : Nat} {R : Rd} {h : H} (a : RdS 5 96 n0 r R h) (hl : R.bs.length < 2 ^ 28) : callW S.cfg (· = r) 64 [.ptr r 0] h fun w h' => (∃ l, BS 5 h' w l) ∧ RdR 96 n0 r (if R.e ≠ 0 then R else ⟨[], R.e⟩) h h' := by
  refine into Tryz.f64 _ Tryz.func64 (hS.ownF _ (by decide)) rfl rfl (by kernel_rfl) (by kernel_rfl) ?_
  have a' := a
  obtain ⟨⟨v, g, hb, ho⟩, hlt⟩ := a
  by_cases he : R.e ≠ 0
  · rw [if_pos he]
    have he' : ¬ R.e = 0 := he
    simp +contextual (disch := first | (simp only [facts, clsL, clsS, clsC, isPtrD]; done) | omega | (simp only [push_nx, put_nx, del_nx]; omega) | (refine Nat.le_antisymm ?_ ?_ <;> simp only [push_nx, put_nx, del_nx] <;> omega) | fail) only [wpy, facts, wpb, cst, wpk, wpl, forall_const, implies_true, false_implies, Int.reduceLE, Int.reduceLT, Nat.reduceLeDiff, UInt8.reduceToNat, ↓reduceIte, Nat.reduceEqDiff, Nat.reduceAdd, reduceCtorEq, Int.reduceToNat, clsL, clsS, clsC, Tryz.f64, g, he']
    exact ⟨⟨[], BS.nil _ _⟩, a', But.refl r h⟩
  rw [if_neg he]
  have he' : R.e = 0 := Classical.not_not.1 he
  simp +contextual (disch := first | (simp only [facts, clsL, clsS, clsC, isPtrD]; done) | omega | (simp only [push_nx, put_nx, del_nx]; omega) | (refine Nat.le_antisymm ?_ ?_ <;> simp only [push_nx, put_nx, del_nx] <;> omega) | fail) only [wpy, facts, wpb, cst, wpk, wpl, forall_const, implies_true, false_implies, Int.reduceLE, Int.reduceLT, Nat.reduceLeDiff, UInt8.reduceToNat, ↓reduceIte, Nat.reduceEqDiff, Nat.reduceAdd, reduceCtorEq, Int.reduceToNat, clsL, clsS, clsC, Tryz.f64, g, he']
  generalize hhA : h.push (Ob.cells [] 5 false) = hA
  have hxA : Ext h hA := by rw [← hhA]; exact (Ext.refl h).push _
  have hgA : hA.get h.nx = some (.cells [] 5 false) := by rw [← hhA]; exact push_eq rfl
  have hnA : hA.nx = h.nx + 1 := by rw [← hhA]; rfl
  clear hhA
  have gA : hA.get r = some (.cells [v, .int .i64 R.e] 96 false) := by rw [hxA.2 r hlt.2]; exact g
  refine append_lst (n0 := h.nx) (sv := .slice h.nx 0 0 0) (xv := v) (cells := []) (new := bytesV R.bs) ?_ ?_ ap43 ⟨.slice 5, by kernel_rfl, rfl⟩ (.inr ⟨rfl, h.nx, Nat.le_refl _, by omega, rfl, hgA⟩) (hb.ext hxA).src (isCell_bytes _) ?_ (by decide) (fun k hk => by rw [fresh_def]; exact .inl hk) (by omega) ?_
  · simp +contextual (disch := first | (simp only [facts, clsL, clsS, clsC, isPtrD]; done) | omega | (simp only [push_nx, put_nx, del_nx]; omega) | (refine Nat.le_antisymm ?_ ?_ <;> simp only [push_nx, put_nx, del_nx] <;> omega) | fail) only [wpy, facts, wpb, cst, wpk, wpl, forall_const, implies_true, false_implies, Int.reduceLE, Int.reduceLT, Nat.reduceLeDiff, UInt8.reduceToNat, ↓reduceIte, Nat.reduceEqDiff, Nat.reduceAdd, reduceCtorEq, Int.reduceToNat, clsL, clsS, clsC]
  · simp +contextual (disch := first | (simp only [facts, clsL, clsS, clsC, isPtrD]; done) | omega | (simp only [push_nx, put_nx, del_nx]; omega) | (refine Nat.le_antisymm ?_ ?_ <;> simp only [push_nx, put_nx, del_nx] <;> omega) | fail) only [wpy, facts, wpb, cst, wpk, wpl, forall_const, implies_true, false_implies, Int.reduceLE, Int.reduceLT, Nat.reduceLeDiff, UInt8.reduceToNat, ↓reduceIte, Nat.reduceEqDiff, Nat.reduceAdd, reduceCtorEq, Int.reduceToNat, clsL, clsS, clsC]
  · rw [bytesV_length]; simp only [List.length_nil]; omega
  intro w h2 L hl2 hn2 hk2 hf2 hL2
  have hx2 : Ext h h2 := ⟨by omega, fun k hk => by rw [hf2 k hk, hxA.2 k hk]⟩
  have g2 : h2.get r = some (.cells [v, .int .i64 R.e] 96 false) := by rw [hx2.2 r hlt.2]; exact g
  have hlt2 : n0 ≤ r ∧ r < h2.nx := ⟨hlt.1, Nat.lt_of_lt_of_le hlt.2 hx2.1⟩
  simp +contextual (disch := first | (simp only [facts, clsL, clsS, clsC, isPtrD]; done) | omega | (simp only [push_nx, put_nx, del_nx]; omega) | (refine Nat.le_antisymm ?_ ?_ <;> simp only [push_nx, put_nx, del_nx] <;> omega) | fail) only [wpy, facts, wpb, cst, wpk, wpl, forall_const, implies_true, false_implies, Int.reduceLE, Int.reduceLT, Nat.reduceLeDiff, UInt8.reduceToNat, ↓reduceIte, Nat.reduceEqDiff, Nat.reduceAdd, reduceCtorEq, Int.reduceToNat, clsL, clsS, clsC, Tryz.f64, g2]
  refine ⟨⟨_, (BS.of_lst hb.1 hl2).put (hl2.off r hlt.2)⟩, ?_, (But.of_ext hx2).put _⟩
  have := RdS.put (e := 5) (t := 96) (R := ⟨[], R.e⟩) (BS.nil _ _) (fun _ _ _ _ _ q => by cases q) hlt2
  rw [he'] at this ⊢
  exact this
end
end Go.Proofs.YtlffhbpkphigdaaGreatDoor
set_option maxHeartbeats 2000000
namespace Go.Proofs.YtlffhbpkphigdaaGreatDoor
open Go.Proofs Go.Lx Go.Wx Go.IntWalk
noncomputable section
def hasP (c x : Int) : Prop := ¬ iAnd .u32 c x = 0
def sessP (c : Int) : Prop := hasP c 8388608
def chgP (st : Int) : Prop := ¬ iAnd .u16 st 16384 = 0
def trkP (c st : Int) : Prop := sessP c ∧ chgP st
def okeF (l : List Nat) (c : Int) : Int := okE l (sessP c) (trkP c (okS l).1)
def oz : List V := [.int .u64 0, .int .u64 0, .int .u16 0, .int .u16 0, .str [], .nilslice]
theorem RdR.trans {t n0 r : Nat} {R R1 : Rd} {h h1 h2 : H} (a : RdR t n0 r R h h1) (b : RdR t n0 r R1 h1 h2) : RdR t n0 r R1 h h2 := ⟨b.1, a.2.trans b.2⟩
variable {S : Set0} (hS : StdB S)
include hS
theorem has_spec (c x : Int) (h : H) : Exact S.cfg 54 [.int .u32 c, .int .u32 x] h (bo (hasP c x)) := by
  refine into Tryz.f54 _ Tryz.func54 (hS.ownB _ (by decide)) rfl rfl (by kernel_rfl) (by kernel_rfl) ?_
  simp +contextual (disch := first | (simp only [facts, clsL, clsS, clsC, isPtrD]; done) | omega | (simp only [push_nx, put_nx, del_nx]; omega) | (refine Nat.le_antisymm ?_ ?_ <;> simp only [push_nx, put_nx, del_nx] <;> omega) | fail) only [wpy, facts, wpb, cst, wpk, wpl, forall_const, implies_true, false_implies, Int.reduceLE, Int.reduceLT, Nat.reduceLeDiff, UInt8.reduceToNat, ↓reduceIte, Nat.reduceEqDiff, Nat.reduceAdd, reduceCtorEq, Int.reduceToNat, clsL, clsS, clsC, Tryz.f54]
  rfl
theorem tracked_spec (c a b s w : Int) (t : List Nat) (x : V) (hx : x.cells = [x] ∧ x.isCell = true) (h : H) : Pure S.cfg 56 [.int .u32 c, .agg [.int .u64 a, .int .u64 b, .int .u16 s, .int .u16 w, .str t, x]] h fun v _ => v = bo (trkP c s) := by
  refine into Tryz.f56 _ Tryz.func56 (hS.ownB _ (by decide)) rfl rfl (by kernel_rfl) (by kernel_rfl) ?_
  have hx1 := hx.1
  have hx2 := hx.2
  simp +contextual (disch := first | (simp only [facts, clsL, clsS, clsC, isPtrD]; done) | omega | (simp only [push_nx, put_nx, del_nx]; omega) | (refine Nat.le_antisymm ?_ ?_ <;> simp only [push_nx, put_nx, del_nx] <;> omega) | fail) only [wpy, facts, wpb, cst, wpk, wpl, forall_const, implies_true, false_implies, Int.reduceLE, Int.reduceLT, Nat.reduceLeDiff, UInt8.reduceToNat, ↓reduceIte, Nat.reduceEqDiff, Nat.reduceAdd, reduceCtorEq, Int.reduceToNat, clsL, clsS, clsC, Tryz.f56, hx1, hx2]
  refine callF_exact (has_spec hS c 8388608 _) ?_
  by_cases hq : sessP c
  · have hq1 : hasP c 8388608 := hq
    simp +contextual (disch := first | (simp only [facts, clsL, clsS, clsC, isPtrD]; done) | omega | (simp only [push_nx, put_nx, del_nx]; omega) | (refine Nat.le_antisymm ?_ ?_ <;> simp only [push_nx, put_nx, del_nx] <;> omega) | fail) only [wpy, facts, wpb, cst, wpk, wpl, forall_const, implies_true, false_implies, Int.reduceLE, Int.reduceLT, Nat.reduceLeDiff, UInt8.reduceToNat, ↓reduceIte, Nat.reduceEqDiff, Nat.reduceAdd, reduceCtorEq, Int.reduceToNat, clsL, clsS, clsC, Tryz.f56, hq1]
    exact ⟨(Ext.refl h).push _, bo_eq ⟨fun q => ⟨hq, q⟩, fun q => q.2⟩⟩
  · have hq1 : ¬ hasP c 8388608 := hq
    simp +contextual (disch := first | (simp only [facts, clsL, clsS, clsC, isPtrD]; done) | omega | (simp only [push_nx, put_nx, del_nx]; omega) | (refine Nat.le_antisymm ?_ ?_ <;> simp only [push_nx, put_nx, del_nx] <;> omega) | fail) only [wpy, facts, wpb, cst, wpk, wpl, forall_const, implies_true, false_implies, Int.reduceLE, Int.reduceLT, Nat.reduceLeDiff, UInt8.reduceToNat, ↓reduceIte, Nat.reduceEqDiff, Nat.reduceAdd, reduceCtorEq, Int.reduceToNat, clsL, clsS, clsC, Tryz.f56, hq1]
    exact ⟨(Ext.refl h).push _, bo_eq ⟨fun q => q.elim, fun q => hq q.1⟩⟩
theorem first_spec {v : V} {l : List Nat} {h : H} (a : BS 5 h v l) (c : Int) : Exact S.cfg 35 [v, .int .u32 c] h (.int .i64 (@ite _ (l.length = 0) (Classical.propDecidable _) 0 (@ite _ (byI l 0 = 0) (Classical.propDecidable _) 1 (@ite _ (byI l 0 = 255) (Classical.propDecidable _) 2 (@ite _ (byI l 0 = 251 ∧ hasP c 128) (Classical.propDecidable _) 4 0))))) := by
  refine into Tryz.f35 _ Tryz.func35 (hS.ownB _ (by decide)) rfl rfl (by kernel_rfl) (by kernel_rfl) ?_
  have a1 := a.len 5
  by_cases h0 : l.length = 0
  · rw [if_pos h0]
    simp +contextual (disch := first | (simp only [facts, clsL, clsS, clsC, isPtrD]; done) | omega | (simp only [push_nx, put_nx, del_nx]; omega) | (refine Nat.le_antisymm ?_ ?_ <;> simp only [push_nx, put_nx, del_nx] <;> omega) | fail) only [wpy, facts, wpb, cst, wpk, wpl, forall_const, implies_true, false_implies, Int.reduceLE, Int.reduceLT, Nat.reduceLeDiff, UInt8.reduceToNat, ↓reduceIte, Nat.reduceEqDiff, Nat.reduceAdd, reduceCtorEq, Int.reduceToNat, clsL, clsS, clsC, Tryz.f35, a1, h0]
  rw [if_neg h0]
  obtain ⟨b, o, m, rfl, _, _⟩ := a.at (i := 0) (by omega)
  obtain ⟨_, hb, hrd⟩ := a.rd
  have hr := hrd 0 (by omega)
  rw [Nat.add_zero] at hr
  have hl0 : 0 < l.length := by omega
  by_cases h1 : byI l 0 = 0
  · rw [if_pos h1]
    have h1 := eq_true h1
    simp +contextual (disch := first | (simp only [facts, clsL, clsS, clsC, isPtrD]; done) | omega | (simp only [push_nx, put_nx, del_nx]; omega) | (refine Nat.le_antisymm ?_ ?_ <;> simp only [push_nx, put_nx, del_nx] <;> omega) | fail) only [wpy, facts, wpb, cst, wpk, wpl, forall_const, implies_true, false_implies, Int.reduceLE, Int.reduceLT, Nat.reduceLeDiff, UInt8.reduceToNat, ↓reduceIte, Nat.reduceEqDiff, Nat.reduceAdd, reduceCtorEq, Int.reduceToNat, clsL, clsS, clsC, Tryz.f35, a1, h0, hl0, hr, h1]
  rw [if_neg h1]
  by_cases h2 : byI l 0 = 255
  · rw [if_pos h2]
    have h2 := eq_true h2
    simp +contextual (disch := first | (simp only [facts, clsL, clsS, clsC, isPtrD]; done) | omega | (simp only [push_nx, put_nx, del_nx]; omega) | (refine Nat.le_antisymm ?_ ?_ <;> simp only [push_nx, put_nx, del_nx] <;> omega) | fail) only [wpy, facts, wpb, cst, wpk, wpl, forall_const, implies_true, false_implies, Int.reduceLE, Int.reduceLT, Nat.reduceLeDiff, UInt8.reduceToNat, ↓reduceIte, Nat.reduceEqDiff, Nat.reduceAdd, reduceCtorEq, Int.reduceToNat, clsL, clsS, clsC, Tryz.f35, a1, h0, hl0, hr, h1, h2]
  rw [if_neg h2]
  simp +contextual (disch := first | (simp only [facts, clsL, clsS, clsC, isPtrD]; done) | omega | (simp only [push_nx, put_nx, del_nx]; omega) | (refine Nat.le_antisymm ?_ ?_ <;> simp only [push_nx, put_nx, del_nx] <;> omega) | fail) only [wpy, facts, wpb, cst, wpk, wpl, forall_const, implies_true, false_implies, Int.reduceLE, Int.reduceLT, Nat.reduceLeDiff, UInt8.reduceToNat, ↓reduceIte, Nat.reduceEqDiff, Nat.reduceAdd, reduceCtorEq, Int.reduceToNat, clsL, clsS, clsC, Tryz.f35, a1, h0, hl0, hr, h1, h2]
  refine gCall_exact (first := []) (cap := []) (fun _ => has_spec hS c 128 _) fun fp => ?_
  by_cases h3 : byI l 0 = 251
  · by_cases h4 : hasP c 128
    · rw [if_pos ⟨h3, h4⟩]
      have h3 := eq_true h3
      simp +contextual (disch := first | (simp only [facts, clsL, clsS, clsC, isPtrD]; done) | omega | (simp only [push_nx, put_nx, del_nx]; omega) | (refine Nat.le_antisymm ?_ ?_ <;> simp only [push_nx, put_nx, del_nx] <;> omega) | fail) only [wpy, facts, wpb, cst, wpk, wpl, forall_const, implies_true, false_implies, Int.reduceLE, Int.reduceLT, Nat.reduceLeDiff, UInt8.reduceToNat, ↓reduceIte, Nat.reduceEqDiff, Nat.reduceAdd, reduceCtorEq, Int.reduceToNat, clsL, clsS, clsC, Tryz.f35, a1, h0, hl0, hr, h1, h2, h3, h4]
    · rw [if_neg (fun q => h4 q.2)]
      have h3 := eq_true h3
      simp +contextual (disch := first | (simp only [facts, clsL, clsS, clsC, isPtrD]; done) | omega | (simp only [push_nx, put_nx, del_nx]; omega) | (refine Nat.le_antisymm ?_ ?_ <;> simp only [push_nx, put_nx, del_nx] <;> omega) | fail) only [wpy, facts, wpb, cst, wpk, wpl, forall_const, implies_true, false_implies, Int.reduceLE, Int.reduceLT, Nat.reduceLeDiff, UInt8.reduceToNat, ↓reduceIte, Nat.reduceEqDiff, Nat.reduceAdd, reduceCtorEq, Int.reduceToNat, clsL, clsS, clsC, Tryz.f35, a1, h0, hl0, hr, h1, h2, h3, h4]
  · rw [if_neg (fun q => h3 q.1)]
    simp +contextual (disch := first | (simp only [facts, clsL, clsS, clsC, isPtrD]; done) | omega | (simp only [push_nx, put_nx, del_nx]; omega) | (refine Nat.le_antisymm ?_ ?_ <;> simp only [push_nx, put_nx, del_nx] <;> omega) | fail) only [wpy, facts, wpb, cst, wpk, wpl, forall_const, implies_true, false_implies, Int.reduceLE, Int.reduceLT, Nat.reduceLeDiff, UInt8.reduceToNat, ↓reduceIte, Nat.reduceEqDiff, Nat.reduceAdd, reduceCtorEq, Int.reduceToNat, clsL, clsS, clsC, Tryz.f35, a1, h0, hl0, hr, h1, h2, h3]
theorem readok_spec {v : V} {l : List Nat} {h : H} (a : BS 5 h v l) (hl : l.length < 2 ^ 28) (c : Int) : Pure S.cfg 34 [v, .int .u32 c] h fun w _ => ∃ y0 y1 y2 y3 y4 y5, w = .tuple [.agg [y0, y1, y2, y3, y4, y5], .int .i64 (okeF l c)] ∧ (y0.isCell && (y1.isCell && (y2.isCell && (y3.isCell && (y4.isCell && y5.isCell))))) = true := by
  refine into Tryz.f34 _ Tryz.func34 (hS.ownB _ (by decide)) rfl rfl (by kernel_rfl) (by kernel_rfl) ?_
  obtain ⟨c1, c2⟩ := a.cell
  simp +contextual (disch := first | (simp only [facts, clsL, clsS, clsC, isPtrD]; done) | omega | (simp only [push_nx, put_nx, del_nx]; omega) | (refine Nat.le_antisymm ?_ ?_ <;> simp only [push_nx, put_nx, del_nx] <;> omega) | fail) only [wpy, facts, wpb, cst, wpk, wpl, forall_const, implies_true, false_implies, Int.reduceLE, Int.reduceLT, Nat.reduceLeDiff, UInt8.reduceToNat, ↓reduceIte, Nat.reduceEqDiff, Nat.reduceAdd, reduceCtorEq, Int.reduceToNat, clsL, clsS, clsC, Tryz.f34, c1, c2]
  generalize hhA : H.push _ (Ob.cells [V.int IntKind.u8 0, V.int IntKind.u8 254] 5 false) = hA
  have hxA : Ext h hA := by rw [← hhA]; exact (((Ext.refl h).push _).push _).push _
  have hnA : hA.nx = h.nx + 3 := by rw [← hhA]; rfl
  have gR : hA.get (h.nx + 1) = some (.cells [v, .int .i64 0] 85 false) := by rw [← hhA, push_ne (by simp only [push_nx]; omega)]; exact push_eq rfl
  have gZ : hA.get h.nx = some (.cells oz 73 false) := by rw [← hhA, push_ne (by simp only [push_nx]; omega), push_ne (by simp only [push_nx]; omega)]; exact push_eq rfl
  have gL : hA.get (h.nx + 1 + 1) = some (.cells (bytesV [0, 254]) 5 false) := by rw [← hhA]; exact push_eq rfl
  clear hhA
  have al : BS 5 hA (.slice (h.nx + 1 + 1) 0 2 2) [0, 254] := ⟨by intro x hx; simp at hx; omega, .inr ⟨_, 0, 2, rfl, by omega, by decide, by rw [gL]; rfl, fun kc e' fl q hf => by rw [gL] at q; cases q; cases hf⟩⟩
  have a2 : RdS 5 85 h.nx (h.nx + 1) ⟨l, 0⟩ hA := ⟨⟨v, gR, a.ext hxA, fun k hk => a.off hk⟩, by omega, by omega⟩
  have okf : ∀ k, k = h.nx + 1 → fresh h.nx nil1 k := fun k hk => by rw [fresh_def]; exact .inl (by omega)
  have hR2 : mustF ⟨l, 0⟩ [0, 254] = (Rd.mk l 0).byt.2.bad ((Rd.mk l 0).byt.1 ≠ 0 ∧ (Rd.mk l 0).byt.1 ≠ 254) := by
    unfold mustF
    rw [(Rd.byt_fix (R := ⟨l, 0⟩) a.1).1, (Rd.byt_fix (R := ⟨l, 0⟩) a.1).2, must_two _ (Rd.byt_in (R := ⟨l, 0⟩) a.1).1]
  have l0 : (Rd.mk l 0).byt.2.bs.length ≤ l.length := by rw [← (Rd.byt_fix (R := ⟨l, 0⟩) a.1).2]; exact Rd.fix_len _ _
  refine callF_of (must_spec hS a2 (by show l.length < _; omega) al (fun o n m q => by injection q; omega)) okf ?_
  rw [hR2]
  generalize hgR2 : (Rd.mk l 0).byt.2.bad ((Rd.mk l 0).byt.1 ≠ 0 ∧ (Rd.mk l 0).byt.1 ≠ 254) = R2
  have l2 : R2.bs.length ≤ l.length := by rw [← hgR2, Rd.bad_bs]; exact l0
  rintro w1 h1 r1
  simp +contextual (disch := first | (simp only [facts, clsL, clsS, clsC, isPtrD]; done) | omega | (simp only [push_nx, put_nx, del_nx]; omega) | (refine Nat.le_antisymm ?_ ?_ <;> simp only [push_nx, put_nx, del_nx] <;> omega) | fail) only [wpy, facts, wpb, cst, wpk, wpl, forall_const, implies_true, false_implies, Int.reduceLE, Int.reduceLT, Nat.reduceLeDiff, UInt8.reduceToNat, ↓reduceIte, Nat.reduceEqDiff, Nat.reduceAdd, reduceCtorEq, Int.reduceToNat, clsL, clsS, clsC, Tryz.f34]
  refine callF_of (cnt_spec hS r1.1 (by omega)) okf ?_
  have l3 := Rd.cnt_len R2
  rintro _ h2 ⟨rfl, r2⟩
  simp +contextual (disch := first | (simp only [facts, clsL, clsS, clsC, isPtrD]; done) | omega | (simp only [push_nx, put_nx, del_nx]; omega) | (refine Nat.le_antisymm ?_ ?_ <;> simp only [push_nx, put_nx, del_nx] <;> omega) | fail) only [wpy, facts, wpb, cst, wpk, wpl, forall_const, implies_true, false_implies, Int.reduceLE, Int.reduceLT, Nat.reduceLeDiff, UInt8.reduceToNat, ↓reduceIte, Nat.reduceEqDiff, Nat.reduceAdd, reduceCtorEq, Int.reduceToNat, clsL, clsS, clsC, Tryz.f34]
  refine callF_of (cnt_spec hS r2.1 (by omega)) okf ?_
  have l4 := Rd.cnt_len R2.cnt.2
  rintro _ h3 ⟨rfl, r3⟩
  simp +contextual (disch := first | (simp only [facts, clsL, clsS, clsC, isPtrD]; done) | omega | (simp only [push_nx, put_nx, del_nx]; omega) | (refine Nat.le_antisymm ?_ ?_ <;> simp only [push_nx, put_nx, del_nx] <;> omega) | fail) only [wpy, facts, wpb, cst, wpk, wpl, forall_const, implies_true, false_implies, Int.reduceLE, Int.reduceLT, Nat.reduceLeDiff, UInt8.reduceToNat, ↓reduceIte, Nat.reduceEqDiff, Nat.reduceAdd, reduceCtorEq, Int.reduceToNat, clsL, clsS, clsC, Tryz.f34]
  refine callF_of (fix_spec hS r3.1 (by omega) 2 (by omega)) okf ?_
  have l5 := Rd.fix_len R2.cnt.2.cnt.2 2
  rintro _ h4 ⟨rfl, r4⟩
  simp +contextual (disch := first | (simp only [facts, clsL, clsS, clsC, isPtrD]; done) | omega | (simp only [push_nx, put_nx, del_nx]; omega) | (refine Nat.le_antisymm ?_ ?_ <;> simp only [push_nx, put_nx, del_nx] <;> omega) | fail) only [wpy, facts, wpb, cst, wpk, wpl, forall_const, implies_true, false_implies, Int.reduceLE, Int.reduceLT, Nat.reduceLeDiff, UInt8.reduceToNat, ↓reduceIte, Nat.reduceEqDiff, Nat.reduceAdd, reduceCtorEq, Int.reduceToNat, clsL, clsS, clsC, Tryz.f34]
  refine callF_of (fix_spec hS r4.1 (by omega) 2 (by omega)) okf ?_
  have l6 := Rd.fix_len (R2.cnt.2.cnt.2.fix 2).2 2
  rintro _ h5 ⟨rfl, r5⟩
  have hS5 : okS l = (IntKind.u16.wrap (R2.cnt.2.cnt.2.fix 2).1, ((R2.cnt.2.cnt.2.fix 2).2.fix 2).2) := by rw [← hgR2]; rfl
  have hRa : okeF l c = (okR l (sessP c) (trkP c (IntKind.u16.wrap (R2.cnt.2.cnt.2.fix 2).1))).over.e := by unfold okeF okE; rw [hS5]
  have hRb : ∀ p q : Prop, okR l p q = @ite _ (((R2.cnt.2.cnt.2.fix 2).2.fix 2).2.e ≠ 0) (Classical.propDecidable _) ((R2.cnt.2.cnt.2.fix 2).2.fix 2).2 (@ite _ p (Classical.propDecidable _) (@ite _ q (Classical.propDecidable _) ((R2.cnt.2.cnt.2.fix 2).2.fix 2).2.txt.2.txt.2 (@ite _ (((R2.cnt.2.cnt.2.fix 2).2.fix 2).2.bs ≠ []) (Classical.propDecidable _) ((R2.cnt.2.cnt.2.fix 2).2.fix 2).2.txt.2 ((R2.cnt.2.cnt.2.fix 2).2.fix 2).2)) ⟨[], ((R2.cnt.2.cnt.2.fix 2).2.fix 2).2.e⟩) := fun p q => by unfold okR; rw [hS5]
  rw [hRa]
  clear hRa
  have b5 : But (h.nx + 1) hA h5 := ((((r1.2.trans r2.2).trans r3.2).trans r4.2).trans r5.2)
  generalize ((R2.cnt.2.cnt.2.fix 2).2.fix 2).2 = R6 at *
  generalize (IntKind.u16.wrap (R2.cnt.2.cnt.2.fix 2).1) = st at *
  have l7 : R6.bs.length < 2 ^ 28 := by omega
  have b5n := b5.1
  have gZ5 : h5.get h.nx = some (.cells oz 73 false) := by rw [b5.2 _ (by omega) (by omega)]; exact gZ
  obtain ⟨⟨v5, g5, hb5, ho5⟩, hlt5⟩ := r5.1
  simp +contextual (disch := first | (simp only [facts, clsL, clsS, clsC, isPtrD]; done) | omega | (simp only [push_nx, put_nx, del_nx]; omega) | (refine Nat.le_antisymm ?_ ?_ <;> simp only [push_nx, put_nx, del_nx] <;> omega) | fail) only [wpyr, facts, wpb, cst, wpk, wpl, forall_const, implies_true, false_implies, Int.reduceLE, Int.reduceLT, Nat.reduceLeDiff, UInt8.reduceToNat, ↓reduceIte, Nat.reduceEqDiff, Nat.reduceAdd, reduceCtorEq, Int.reduceToNat, clsL, clsS, clsC, Tryz.f34, g5]
  refine ⟨.inr (by omega), ?_⟩
  generalize hhC : H.put _ _ _ = hC
  have hxC : Ext h5 hC := by rw [← hhC]; exact Ext.new _ _ _
  have hnC : hC.nx = h5.nx + 1 := by rw [← hhC]; rfl
  have gC : ∃ x1 x2 x4, hC.get h5.nx = some (.cells [.int .u64 x1, .int .u64 x2, .int .u16 st, .int .u16 x4, .str [], .nilslice] 73 false) := ⟨R2.cnt.1, R2.cnt.2.cnt.1, _, by rw [← hhC]; exact put_eq rfl⟩
  clear hhC
  obtain ⟨x1, x2, x4, gC⟩ := gC
  have gZC : hC.get h.nx = some (.cells oz 73 false) := by rw [hxC.2 _ (by omega)]; exact gZ5
  have rC : RdS 5 85 h.nx (h.nx + 1) R6 hC := r5.1.ext hxC
  have gRC : hC.get (h.nx + 1) = some (.cells [v5, .int .i64 R6.e] 85 false) := by rw [hxC.2 _ (by omega)]; exact g5
  refine run_blk_cut (fun env' h' => env' 4 = .ptr h.nx 0 ∧ env' 6 = .ptr (h.nx + 1) 0 ∧ env' 7 = .ptr h5.nx 0 ∧ RdS 5 85 h.nx (h.nx + 1) (okR l (sessP c) (trkP c st)) h' ∧ Ext h h' ∧ h'.get h.nx = some (.cells oz 73 false) ∧ h5.nx < h'.nx ∧ ∃ y0 y1 y2 y3 y4 y5, h'.get h5.nx = some (.cells [y0, y1, y2, y3, y4, y5] 73 false) ∧ (y0.isCell && (y1.isCell && (y2.isCell && (y3.isCell && (y4.isCell && y5.isCell))))) = true) ?_ ?_
  · have hxhC : Ext h hC := But.ext hxA (b5.trans (But.of_ext hxC)) (by omega)
    by_cases he : R6.e ≠ 0
    · rw [hRb, if_pos he]
      have he' : ¬ R6.e = 0 := he
      simp +contextual (disch := first | (simp only [facts, clsL, clsS, clsC, isPtrD]; done) | omega | (simp only [push_nx, put_nx, del_nx]; omega) | (refine Nat.le_antisymm ?_ ?_ <;> simp only [push_nx, put_nx, del_nx] <;> omega) | fail) only [wpy, facts, wpb, cst, wpk, wpl, forall_const, implies_true, false_implies, Int.reduceLE, Int.reduceLT, Nat.reduceLeDiff, UInt8.reduceToNat, ↓reduceIte, Nat.reduceEqDiff, Nat.reduceAdd, reduceCtorEq, Int.reduceToNat, clsL, clsS, clsC, Tryz.f34, gRC, he']
      exact ⟨rC, hxhC, gZC, by omega, _, _, _, _, _, _, gC, rfl⟩
    have he0 : R6.e = 0 := Classical.not_not.1 he
    simp +contextual (disch := first | (simp only [facts, clsL, clsS, clsC, isPtrD]; done) | omega | (simp only [push_nx, put_nx, del_nx]; omega) | (refine Nat.le_antisymm ?_ ?_ <;> simp only [push_nx, put_nx, del_nx] <;> omega) | fail) only [wpy, facts, wpb, cst, wpk, wpl, forall_const, implies_true, false_implies, Int.reduceLE, Int.reduceLT, Nat.reduceLeDiff, UInt8.reduceToNat, ↓reduceIte, Nat.reduceEqDiff, Nat.reduceAdd, reduceCtorEq, Int.reduceToNat, clsL, clsS, clsC, Tryz.f34, gRC, he0]
    refine callF_exact (has_spec hS c 8388608 _) ?_
    by_cases hs : sessP c
    · have hs' : hasP c 8388608 := hs
      simp +contextual (disch := first | (simp only [facts, clsL, clsS, clsC, isPtrD]; done) | omega | (simp only [push_nx, put_nx, del_nx]; omega) | (refine Nat.le_antisymm ?_ ?_ <;> simp only [push_nx, put_nx, del_nx] <;> omega) | fail) only [wpy, facts, wpb, cst, wpk, wpl, forall_const, implies_true, false_implies, Int.reduceLE, Int.reduceLT, Nat.reduceLeDiff, UInt8.reduceToNat, ↓reduceIte, Nat.reduceEqDiff, Nat.reduceAdd, reduceCtorEq, Int.reduceToNat, clsL, clsS, clsC, Tryz.f34, hs', gC]
      refine callF_pure (tracked_spec hS c _ _ _ _ _ _ ⟨rfl, rfl⟩ _) ?_
      rintro _ hD hxD rfl
      have gD : hD.get h5.nx = some (.cells [.int .u64 x1, .int .u64 x2, .int .u16 st, .int .u16 x4, .str [], .nilslice] 73 false) := by rw [hxD.2 _ (by omega)]; exact gC
      have gZD : hD.get h.nx = some (.cells oz 73 false) := by rw [hxD.2 _ (by omega)]; exact gZC
      have gRD : hD.get (h.nx + 1) = some (.cells [v5, .int .i64 R6.e] 85 false) := by rw [hxD.2 _ (by omega)]; exact gRC
      have hnD := hxD.1
      have rD := rC.ext hxD
      have hxhD := hxhC.trans hxD
      by_cases ht : trkP c st
      · rw [hRb, if_neg he, if_pos hs, if_pos ht]
        simp +contextual (disch := first | (simp only [facts, clsL, clsS, clsC, isPtrD]; done) | omega | (simp only [push_nx, put_nx, del_nx]; omega) | (refine Nat.le_antisymm ?_ ?_ <;> simp only [push_nx, put_nx, del_nx] <;> omega) | fail) only [wpy, facts, wpb, cst, wpk, wpl, forall_const, implies_true, false_implies, Int.reduceLE, Int.reduceLT, Nat.reduceLeDiff, UInt8.reduceToNat, ↓reduceIte, Nat.reduceEqDiff, Nat.reduceAdd, reduceCtorEq, Int.reduceToNat, clsL, clsS, clsC, Tryz.f34, ht]
        refine callF_of (txt_spec hS rD (by omega)) okf ?_
        rintro _ h8 ⟨rfl, r8⟩
        have n8 := r8.2.1
        have g8 : h8.get h5.nx = some (.cells [.int .u64 x1, .int .u64 x2, .int .u16 st, .int .u16 x4, .str [], .nilslice] 73 false) := by rw [r8.2.2 _ (by omega) (by omega)]; exact gD
        have gZ8 : h8.get h.nx = some (.cells oz 73 false) := by rw [r8.2.2 _ (by omega) (by omega)]; exact gZD
        have hxh8 : Ext h h8 := But.ext hxhD r8.2 (by omega)
        simp +contextual (disch := first | (simp only [facts, clsL, clsS, clsC, isPtrD]; done) | omega | (simp only [push_nx, put_nx, del_nx]; omega) | (refine Nat.le_antisymm ?_ ?_ <;> simp only [push_nx, put_nx, del_nx] <;> omega) | fail) only [wpy, facts, wpb, cst, wpk, wpl, forall_const, implies_true, false_implies, Int.reduceLE, Int.reduceLT, Nat.reduceLeDiff, UInt8.reduceToNat, ↓reduceIte, Nat.reduceEqDiff, Nat.reduceAdd, reduceCtorEq, Int.reduceToNat, clsL, clsS, clsC, Tryz.f34, g8]
        refine ⟨.inr (by omega), ?_⟩
        generalize hh9 : H.put h8 _ _ = h9
        have hn9 : h9.nx = h8.nx := by rw [← hh9]; rfl
        have g9 : h9.get h5.nx = some (.cells [.int .u64 x1, .int .u64 x2, .int .u16 st, .int .u16 x4, .str R6.txt.1, .nilslice] 73 false) := by rw [← hh9]; exact put_eq rfl
        have gZ9 : h9.get h.nx = some (.cells oz 73 false) := by rw [← hh9, put_ne (by omega)]; exact gZ8
        have hxh9 : Ext h h9 := by rw [← hh9]; exact hxh8.put (by omega) _
        have r9 : RdS 5 85 h.nx (h.nx + 1) R6.txt.2 h9 := r8.1.keep (by omega) (by rw [← hh9, put_ne (by omega)]) fun k hk => by rw [← hh9, put_ne (by omega)]
        clear hh9
        have l8 := Rd.txt_len R6
        refine callF_of (txt_spec hS r9 (by omega)) okf ?_
        rintro _ hE ⟨rfl, rE⟩
        have nE := rE.2.1
        have gE : hE.get h5.nx = some (.cells [.int .u64 x1, .int .u64 x2, .int .u16 st, .int .u16 x4, .str R6.txt.1, .nilslice] 73 false) := by rw [rE.2.2 _ (by omega) (by omega)]; exact g9
        have gZE : hE.get h.nx = some (.cells oz 73 false) := by rw [rE.2.2 _ (by omega) (by omega)]; exact gZ9
        have hxhE : Ext h hE := But.ext hxh9 rE.2 (by omega)
        have qE : ¬ h5.nx = hE.nx := by omega
        simp +contextual (disch := first | (simp only [facts, clsL, clsS, clsC, isPtrD]; done) | omega | (simp only [push_nx, put_nx, del_nx]; omega) | (refine Nat.le_antisymm ?_ ?_ <;> simp only [push_nx, put_nx, del_nx] <;> omega) | fail) only [wpy, facts, wpb, cst, wpk, wpl, forall_const, implies_true, false_implies, Int.reduceLE, Int.reduceLT, Nat.reduceLeDiff, UInt8.reduceToNat, ↓reduceIte, Nat.reduceEqDiff, Nat.reduceAdd, reduceCtorEq, Int.reduceToNat, clsL, clsS, clsC, Tryz.f34, gE, qE]
        refine ⟨.inr (by omega), ?_, (hxhE.push _).put (by omega) _, ?_, by omega, _, _, _, _, _, _, rfl, rfl⟩
        · exact rE.1.keep (by simp only [put_nx, push_nx]; omega) (by rw [put_ne (by omega), push_ne (by omega)]) fun k hk => by rw [put_ne (by omega), push_ne (by omega)]
        · exact gZE
      · have hlen := hb5.len 5
        by_cases hb0 : R6.bs = []
        · rw [hRb, if_neg he, if_pos hs, if_neg ht, if_neg (fun q => q hb0)]
          have hb1 : ¬ 0 < R6.bs.length := by rw [hb0]; decide
          simp +contextual (disch := first | (simp only [facts, clsL, clsS, clsC, isPtrD]; done) | omega | (simp only [push_nx, put_nx, del_nx]; omega) | (refine Nat.le_antisymm ?_ ?_ <;> simp only [push_nx, put_nx, del_nx] <;> omega) | fail) only [wpy, facts, wpb, cst, wpk, wpl, forall_const, implies_true, false_implies, Int.reduceLE, Int.reduceLT, Nat.reduceLeDiff, UInt8.reduceToNat, ↓reduceIte, Nat.reduceEqDiff, Nat.reduceAdd, reduceCtorEq, Int.reduceToNat, clsL, clsS, clsC, Tryz.f34, ht, gRD, hlen, hb1]
          exact ⟨rD, hxhD, gZD, by omega, _, _, _, _, _, _, gD, rfl⟩
        · rw [hRb, if_neg he, if_pos hs, if_neg ht, if_pos hb0]
          have hb1 : 0 < R6.bs.length := List.length_pos_iff.2 hb0
          simp +contextual (disch := first | (simp only [facts, clsL, clsS, clsC, isPtrD]; done) | omega | (simp only [push_nx, put_nx, del_nx]; omega) | (refine Nat.le_antisymm ?_ ?_ <;> simp only [push_nx, put_nx, del_nx] <;> omega) | fail) only [wpy, facts, wpb, cst, wpk, wpl, forall_const, implies_true, false_implies, Int.reduceLE, Int.reduceLT, Nat.reduceLeDiff, UInt8.reduceToNat, ↓reduceIte, Nat.reduceEqDiff, Nat.reduceAdd, reduceCtorEq, Int.reduceToNat, clsL, clsS, clsC, Tryz.f34, ht, gRD, hlen, hb1]
          refine callF_of (txt_spec hS rD (by omega)) okf ?_
          rintro _ h8 ⟨rfl, r8⟩
          have n8 := r8.2.1
          have g8 : h8.get h5.nx = some (.cells [.int .u64 x1, .int .u64 x2, .int .u16 st, .int .u16 x4, .str [], .nilslice] 73 false) := by rw [r8.2.2 _ (by omega) (by omega)]; exact gD
          have gZ8 : h8.get h.nx = some (.cells oz 73 false) := by rw [r8.2.2 _ (by omega) (by omega)]; exact gZD
          have hxh8 : Ext h h8 := But.ext hxhD r8.2 (by omega)
          simp +contextual (disch := first | (simp only [facts, clsL, clsS, clsC, isPtrD]; done) | omega | (simp only [push_nx, put_nx, del_nx]; omega) | (refine Nat.le_antisymm ?_ ?_ <;> simp only [push_nx, put_nx, del_nx] <;> omega) | fail) only [wpy, facts, wpb, cst, wpk, wpl, forall_const, implies_true, false_implies, Int.reduceLE, Int.reduceLT, Nat.reduceLeDiff, UInt8.reduceToNat, ↓reduceIte, Nat.reduceEqDiff, Nat.reduceAdd, reduceCtorEq, Int.reduceToNat, clsL, clsS, clsC, Tryz.f34, g8]
          refine ⟨.inr (by omega), ?_, hxh8.put (by omega) _, ?_, by omega, _, _, _, _, _, _, rfl, rfl⟩
          · exact r8.1.keep (Nat.le_refl _) (by rw [put_ne (by omega)]) fun k hk => by rw [put_ne (by omega)]
          · exact gZ8
    · rw [hRb, if_neg he, if_neg hs]
      have hs' : ¬ hasP c 8388608 := hs
      simp +contextual (disch := first | (simp only [facts, clsL, clsS, clsC, isPtrD]; done) | omega | (simp only [push_nx, put_nx, del_nx]; omega) | (refine Nat.le_antisymm ?_ ?_ <;> simp only [push_nx, put_nx, del_nx] <;> omega) | fail) only [wpy, facts, wpb, cst, wpk, wpl, forall_const, implies_true, false_implies, Int.reduceLE, Int.reduceLT, Nat.reduceLeDiff, UInt8.reduceToNat, ↓reduceIte, Nat.reduceEqDiff, Nat.reduceAdd, reduceCtorEq, Int.reduceToNat, clsL, clsS, clsC, Tryz.f34, hs']
      refine callF_of (rest_spec hS rC l7) okf ?_
      rintro w8 h8 ⟨hw8, r8⟩
      have n8 := r8.2.1
      have g8 : h8.get h5.nx = some (.cells [.int .u64 x1, .int .u64 x2, .int .u16 st, .int .u16 x4, .str [], .nilslice] 73 false) := by rw [r8.2.2 _ (by omega) (by omega)]; exact gC
      have gZ8 : h8.get h.nx = some (.cells oz 73 false) := by rw [r8.2.2 _ (by omega) (by omega)]; exact gZC
      have hxh8 : Ext h h8 := But.ext hxhC r8.2 (by omega)
      obtain ⟨L8, _, hc8⟩ := hw8.str
      simp +contextual (disch := first | (simp only [facts, clsL, clsS, clsC, isPtrD]; done) | omega | (simp only [push_nx, put_nx, del_nx]; omega) | (refine Nat.le_antisymm ?_ ?_ <;> simp only [push_nx, put_nx, del_nx] <;> omega) | fail) only [wpy, facts, wpb, cst, wpk, wpl, forall_const, implies_true, false_implies, Int.reduceLE, Int.reduceLT, Nat.reduceLeDiff, UInt8.reduceToNat, ↓reduceIte, Nat.reduceEqDiff, Nat.reduceAdd, reduceCtorEq, Int.reduceToNat, clsL, clsS, clsC, Tryz.f34, hc8, g8]
      refine ⟨.inr (by omega), ?_, hxh8.put (by omega) _, ?_, by omega, _, _, _, _, _, _, rfl, rfl⟩
      · exact r8.1.keep (Nat.le_refl _) (by rw [put_ne (by omega)]) fun k hk => by rw [put_ne (by omega)]
      · exact gZ8
  · rintro env' h6 ⟨e4, e6, e7, r6, hx6, gZ6, hn6, y0, y1, y2, y3, y4, y5, gO6, hy⟩
    simp +contextual (disch := first | (simp only [facts, clsL, clsS, clsC, isPtrD]; done) | omega | (simp only [push_nx, put_nx, del_nx]; omega) | (refine Nat.le_antisymm ?_ ?_ <;> simp only [push_nx, put_nx, del_nx] <;> omega) | fail) only [wpy, facts, wpb, cst, wpk, wpl, forall_const, implies_true, false_implies, Int.reduceLE, Int.reduceLT, Nat.reduceLeDiff, UInt8.reduceToNat, ↓reduceIte, Nat.reduceEqDiff, Nat.reduceAdd, reduceCtorEq, Int.reduceToNat, clsL, clsS, clsC, Tryz.f34, e4, e6, e7]
    refine callF_of (over_spec hS r6) okf ?_
    rintro _ h7 ⟨rfl, r7⟩
    have gZ7 : h7.get h.nx = some (.cells oz 73 false) := by rw [r7.2.2 _ (by omega) (by omega)]; exact gZ6
    unfold oz at gZ7
    have gO7 : h7.get h5.nx = some (.cells [y0, y1, y2, y3, y4, y5] 73 false) := by rw [r7.2.2 _ hn6 (by omega)]; exact gO6
    have hx7 : Ext h h7 := But.ext hx6 r7.2 (by omega)
    by_cases he : (overF (okR l (sessP c) (trkP c st))).e = 0
    · have he' := eq_true he
      have he2 : (okR l (sessP c) (trkP c st)).over.e = 0 := he
      simp +contextual (disch := first | (simp only [facts, clsL, clsS, clsC, isPtrD]; done) | omega | (simp only [push_nx, put_nx, del_nx]; omega) | (refine Nat.le_antisymm ?_ ?_ <;> simp only [push_nx, put_nx, del_nx] <;> omega) | fail) only [wpy, facts, wpb, cst, wpk, wpl, forall_const, implies_true, false_implies, Int.reduceLE, Int.reduceLT, Nat.reduceLeDiff, UInt8.reduceToNat, ↓reduceIte, Nat.reduceEqDiff, Nat.reduceAdd, reduceCtorEq, Int.reduceToNat, clsL, clsS, clsC, Tryz.f34, e4, e6, e7, gZ7, gO7, he', hy, he2]
      exact ⟨hx7.put (Nat.le_refl _) _, y0, y1, y2, y3, y4, y5, rfl, hy⟩
    · simp +contextual (disch := first | (simp only [facts, clsL, clsS, clsC, isPtrD]; done) | omega | (simp only [push_nx, put_nx, del_nx]; omega) | (refine Nat.le_antisymm ?_ ?_ <;> simp only [push_nx, put_nx, del_nx] <;> omega) | fail) only [wpy, facts, wpb, cst, wpk, wpl, forall_const, implies_true, false_implies, Int.reduceLE, Int.reduceLT, Nat.reduceLeDiff, UInt8.reduceToNat, ↓reduceIte, Nat.reduceEqDiff, Nat.reduceAdd, reduceCtorEq, Int.reduceToNat, clsL, clsS, clsC, Tryz.f34, e4, e6, e7, gZ7, gO7, he]
      exact ⟨hx7.put (Nat.le_refl _) _, _, _, _, _, _, _, rfl, rfl⟩
end
noncomputable section
structure FS (h : H) (o : Nat) (R : Rd) (cs : List V) (h' : H) : Prop where
  rd : RdS 5 96 h.nx (h.nx + 1) R h'
  ext : Ext h h'
  z : h'.get h.nx = some (.cells oz 73 false)
  ob : h'.get o = some (.cells cs 73 false)
  lt : h.nx + 1 < o ∧ o < h'.nx
theorem FS.call {h : H} {o : Nat} {R R1 : Rd} {cs : List V} {h1 h2 : H} (a : FS h o R cs h1) (b : RdR 96 h.nx (h.nx + 1) R1 h1 h2) : FS h o R1 cs h2 := by
  have l1 := a.lt
  have n2 := b.2.1
  exact ⟨b.1, But.ext a.ext b.2 (by omega), by rw [b.2.2 _ (by omega) (by omega)]; exact a.z, by rw [b.2.2 _ (by omega) (by omega)]; exact a.ob, by omega, by omega⟩
theorem FS.put {h : H} {o : Nat} {R : Rd} {cs : List V} {h1 : H} (a : FS h o R cs h1) (cs' : List V) : FS h o R cs' (h1.put o (.cells cs' 73 false)) := by
  have l1 := a.lt
  exact ⟨a.rd.keep (Nat.le_refl _) (put_ne (by omega)) fun k hk => put_ne (by omega), a.ext.put (by omega) _, by rw [put_ne (by omega)]; exact a.z, put_eq rfl, l1⟩
theorem FS.ext2 {h : H} {o : Nat} {R : Rd} {cs : List V} {h1 h2 : H} (a : FS h o R cs h1) (hx : Ext h1 h2) : FS h o R cs h2 := by
  have l1 := a.lt
  exact ⟨a.rd.ext hx, a.ext.trans hx, by rw [hx.2 _ (by omega)]; exact a.z, by rw [hx.2 _ (by omega)]; exact a.ob, l1.1, Nat.lt_of_lt_of_le l1.2 hx.1⟩
variable {S : Set0} (hS : StdF S)
include hS
theorem xhas_spec (c x : Int) (h : H) : Exact S.cfg 63 [.int .u32 c, .int .u32 x] h (bo (hasP c x)) := by
  refine into Tryz.f63 _ Tryz.func63 (hS.ownF _ (by decide)) rfl rfl (by kernel_rfl) (by kernel_rfl) ?_
  simp +contextual (disch := first | (simp only [facts, clsL, clsS, clsC, isPtrD]; done) | omega | (simp only [push_nx, put_nx, del_nx]; omega) | (refine Nat.le_antisymm ?_ ?_ <;> simp only [push_nx, put_nx, del_nx] <;> omega) | fail) only [wpy, facts, wpb, cst, wpk, wpl, forall_const, implies_true, false_implies, Int.reduceLE, Int.reduceLT, Nat.reduceLeDiff, UInt8.reduceToNat, ↓reduceIte, Nat.reduceEqDiff, Nat.reduceAdd, reduceCtorEq, Int.reduceToNat, clsL, clsS, clsC, Tryz.f63]
  rfl
theorem xtrack_spec (c s : Int) (h : H) : Exact S.cfg 65 [.int .u32 c, .int .u16 s] h (bo (trkP c s)) := by
  refine into Tryz.f65 _ Tryz.func65 (hS.ownF _ (by decide)) rfl rfl (by kernel_rfl) (by kernel_rfl) ?_
  simp +contextual (disch := first | (simp only [facts, clsL, clsS, clsC, isPtrD]; done) | omega | (simp only [push_nx, put_nx, del_nx]; omega) | (refine Nat.le_antisymm ?_ ?_ <;> simp only [push_nx, put_nx, del_nx] <;> omega) | fail) only [wpy, facts, wpb, cst, wpk, wpl, forall_const, implies_true, false_implies, Int.reduceLE, Int.reduceLT, Nat.reduceLeDiff, UInt8.reduceToNat, ↓reduceIte, Nat.reduceEqDiff, Nat.reduceAdd, reduceCtorEq, Int.reduceToNat, clsL, clsS, clsC, Tryz.f65]
  refine callF_exact (xhas_spec hS c 8388608 _) ?_
  by_cases hq : sessP c
  · have hq1 : hasP c 8388608 := hq
    simp +contextual (disch := first | (simp only [facts, clsL, clsS, clsC, isPtrD]; done) | omega | (simp only [push_nx, put_nx, del_nx]; omega) | (refine Nat.le_antisymm ?_ ?_ <;> simp only [push_nx, put_nx, del_nx] <;> omega) | fail) only [wpy, facts, wpb, cst, wpk, wpl, forall_const, implies_true, false_implies, Int.reduceLE, Int.reduceLT, Nat.reduceLeDiff, UInt8.reduceToNat, ↓reduceIte, Nat.reduceEqDiff, Nat.reduceAdd, reduceCtorEq, Int.reduceToNat, clsL, clsS, clsC, Tryz.f65, hq1]
    exact bo_eq ⟨fun q => ⟨hq, q⟩, fun q => q.2⟩
  · have hq1 : ¬ hasP c 8388608 := hq
    simp +contextual (disch := first | (simp only [facts, clsL, clsS, clsC, isPtrD]; done) | omega | (simp only [push_nx, put_nx, del_nx]; omega) | (refine Nat.le_antisymm ?_ ?_ <;> simp only [push_nx, put_nx, del_nx] <;> omega) | fail) only [wpy, facts, wpb, cst, wpk, wpl, forall_const, implies_true, false_implies, Int.reduceLE, Int.reduceLT, Nat.reduceLeDiff, UInt8.reduceToNat, ↓reduceIte, Nat.reduceEqDiff, Nat.reduceAdd, reduceCtorEq, Int.reduceToNat, clsL, clsS, clsC, Tryz.f65, hq1]
    exact bo_eq ⟨fun q => q.elim, fun q => hq q.1⟩
theorem xreadok_spec {v : V} {l : List Nat} {h : H} (a : BS 5 h v l) (hl : l.length < 2 ^ 28) (c : Int) : Pure S.cfg 36 [v, .int .u32 c] h fun w _ => ∃ y0 y1 y2 y3 y4 y5, w = .tuple [.agg [y0, y1, y2, y3, y4, y5], .int .i64 (okeF l c)] ∧ (y0.isCell && (y1.isCell && (y2.isCell && (y3.isCell && (y4.isCell && y5.isCell))))) = true := by
  refine into Tryz.f36 _ Tryz.func36 (hS.ownF _ (by decide)) rfl rfl (by kernel_rfl) (by kernel_rfl) ?_
  obtain ⟨c1, c2⟩ := a.cell
  simp +contextual (disch := first | (simp only [facts, clsL, clsS, clsC, isPtrD]; done) | omega | (simp only [push_nx, put_nx, del_nx]; omega) | (refine Nat.le_antisymm ?_ ?_ <;> simp only [push_nx, put_nx, del_nx] <;> omega) | fail) only [wpy, facts, wpb, cst, wpk, wpl, forall_const, implies_true, false_implies, Int.reduceLE, Int.reduceLT, Nat.reduceLeDiff, UInt8.reduceToNat, ↓reduceIte, Nat.reduceEqDiff, Nat.reduceAdd, reduceCtorEq, Int.reduceToNat, clsL, clsS, clsC, Tryz.f36, c1, c2]
  generalize hhA : H.push _ (Ob.cells [v, V.int IntKind.i64 0] 96 false) = hA
  have hxA : Ext h hA := by rw [← hhA]; exact ((Ext.refl h).push _).push _
  have hnA : hA.nx = h.nx + 2 := by rw [← hhA]; rfl
  have gR : hA.get (h.nx + 1) = some (.cells [v, .int .i64 0] 96 false) := by rw [← hhA]; exact push_eq rfl
  have gZ : hA.get h.nx = some (.cells oz 73 false) := by rw [← hhA, push_ne (by simp only [push_nx]; omega)]; exact push_eq rfl
  clear hhA
  have a2 : RdS 5 96 h.nx (h.nx + 1) ⟨l, 0⟩ hA := ⟨⟨v, gR, a.ext hxA, fun k hk => a.off hk⟩, by omega, by omega⟩
  have okf : ∀ k, k = h.nx + 1 → fresh h.nx nil1 k := fun k hk => by rw [fresh_def]; exact .inl (by omega)
  have l0 : (Rd.mk l 0).byt.2.bs.length ≤ l.length := by rw [← (Rd.byt_fix (R := ⟨l, 0⟩) a.1).2]; exact Rd.fix_len _ _
  refine callF_of (fbyte_spec hS a2 (by show l.length < _; omega)) okf ?_
  rintro _ h1 ⟨rfl, r1⟩
  simp +contextual (disch := first | (simp only [facts, clsL, clsS, clsC, isPtrD]; done) | omega | (simp only [push_nx, put_nx, del_nx]; omega) | (refine Nat.le_antisymm ?_ ?_ <;> simp only [push_nx, put_nx, del_nx] <;> omega) | fail) only [wpy, facts, wpb, cst, wpk, wpl, forall_const, implies_true, false_implies, Int.reduceLE, Int.reduceLT, Nat.reduceLeDiff, UInt8.reduceToNat, ↓reduceIte, Nat.reduceEqDiff, Nat.reduceAdd, reduceCtorEq, Int.reduceToNat, clsL, clsS, clsC, Tryz.f36]
  have hR2 : (Rd.mk l 0).byt.2.bad (¬ (Rd.mk l 0).byt.1 = 0 ∧ ¬ (Rd.mk l 0).byt.1 = 254) = (Rd.mk l 0).byt.2.bad ((Rd.mk l 0).byt.1 ≠ 0 ∧ (Rd.mk l 0).byt.1 ≠ 254) := rfl
  refine callF_of (fwrong_spec hS r1.1 _) okf ?_
  rw [hR2]
  generalize hgR2 : (Rd.mk l 0).byt.2.bad ((Rd.mk l 0).byt.1 ≠ 0 ∧ (Rd.mk l 0).byt.1 ≠ 254) = R2
  have l2 : R2.bs.length ≤ l.length := by rw [← hgR2, Rd.bad_bs]; exact l0
  rintro w1 h2 r2
  simp +contextual (disch := first | (simp only [facts, clsL, clsS, clsC, isPtrD]; done) | omega | (simp only [push_nx, put_nx, del_nx]; omega) | (refine Nat.le_antisymm ?_ ?_ <;> simp only [push_nx, put_nx, del_nx] <;> omega) | fail) only [wpy, facts, wpb, cst, wpk, wpl, forall_const, implies_true, false_implies, Int.reduceLE, Int.reduceLT, Nat.reduceLeDiff, UInt8.reduceToNat, ↓reduceIte, Nat.reduceEqDiff, Nat.reduceAdd, reduceCtorEq, Int.reduceToNat, clsL, clsS, clsC, Tryz.f36]
  refine callF_of (fint_spec hS r2.1 (by omega)) okf ?_
  have l3 := Rd.cnt_len R2
  rintro _ h3 ⟨rfl, r3⟩
  have n1 := r1.2.1
  have n2 := r2.2.1
  have n3 := r3.2.1
  have b3 : But (h.nx + 1) hA h3 := (r1.2.trans r2.2).trans r3.2
  simp +contextual (disch := first | (simp only [facts, clsL, clsS, clsC, isPtrD]; done) | omega | (simp only [push_nx, put_nx, del_nx]; omega) | (refine Nat.le_antisymm ?_ ?_ <;> simp only [push_nx, put_nx, del_nx] <;> omega) | fail) only [wpy, facts, wpb, cst, wpk, wpl, forall_const, implies_true, false_implies, Int.reduceLE, Int.reduceLT, Nat.reduceLeDiff, UInt8.reduceToNat, ↓reduceIte, Nat.reduceEqDiff, Nat.reduceAdd, reduceCtorEq, Int.reduceToNat, clsL, clsS, clsC, Tryz.f36]
  refine ⟨.inr (by omega), ?_⟩
  generalize hhC : H.put _ _ _ = hC
  have hxC : Ext h3 hC := by rw [← hhC]; exact Ext.new _ _ _
  have hnC : hC.nx = h3.nx + 1 := by rw [← hhC]; rfl
  have fC : FS h h3.nx R2.cnt.2 [.int .u64 R2.cnt.1, .int .u64 0, .int .u16 0, .int .u16 0, .str [], .nilslice] hC := ⟨r3.1.ext hxC, But.ext hxA (b3.trans (But.of_ext hxC)) (by omega), by rw [hxC.2 _ (by omega), b3.2 _ (by omega) (by omega)]; exact gZ, by rw [← hhC]; exact put_eq rfl, by omega, by omega⟩
  clear hhC
  refine callF_of (fint_spec hS fC.rd (by omega)) okf ?_
  have l4 := Rd.cnt_len R2.cnt.2
  rintro _ h4 ⟨rfl, r4⟩
  have f4 := fC.call r4
  have g4 := f4.ob
  have n4 := f4.lt
  simp +contextual (disch := first | (simp only [facts, clsL, clsS, clsC, isPtrD]; done) | omega | (simp only [push_nx, put_nx, del_nx]; omega) | (refine Nat.le_antisymm ?_ ?_ <;> simp only [push_nx, put_nx, del_nx] <;> omega) | fail) only [wpy, facts, wpb, cst, wpk, wpl, forall_const, implies_true, false_implies, Int.reduceLE, Int.reduceLT, Nat.reduceLeDiff, UInt8.reduceToNat, ↓reduceIte, Nat.reduceEqDiff, Nat.reduceAdd, reduceCtorEq, Int.reduceToNat, clsL, clsS, clsC, Tryz.f36, g4]
  refine ⟨.inr (by omega), callF_of (ffixed_spec hS (f4.put _).rd (by omega) 2 (by omega)) okf ?_⟩
  have l5 := Rd.fix_len R2.cnt.2.cnt.2 2
  rintro _ h5 ⟨rfl, r5⟩
  have f5 := (f4.put _).call r5
  have g5 := f5.ob
  have n5 := f5.lt
  simp +contextual (disch := first | (simp only [facts, clsL, clsS, clsC, isPtrD]; done) | omega | (simp only [push_nx, put_nx, del_nx]; omega) | (refine Nat.le_antisymm ?_ ?_ <;> simp only [push_nx, put_nx, del_nx] <;> omega) | fail) only [wpy, facts, wpb, cst, wpk, wpl, forall_const, implies_true, false_implies, Int.reduceLE, Int.reduceLT, Nat.reduceLeDiff, UInt8.reduceToNat, ↓reduceIte, Nat.reduceEqDiff, Nat.reduceAdd, reduceCtorEq, Int.reduceToNat, clsL, clsS, clsC, Tryz.f36, g5]
  refine ⟨.inr (by omega), callF_of (ffixed_spec hS (f5.put _).rd (by omega) 2 (by omega)) okf ?_⟩
  have l6 := Rd.fix_len (R2.cnt.2.cnt.2.fix 2).2 2
  rintro _ h6 ⟨rfl, r6⟩
  have f6 := (f5.put _).call r6
  have g6 := f6.ob
  have n6 := f6.lt
  have hS5 : okS l = (IntKind.u16.wrap (R2.cnt.2.cnt.2.fix 2).1, ((R2.cnt.2.cnt.2.fix 2).2.fix 2).2) := by rw [← hgR2]; rfl
  have hRa : okeF l c = (okR l (sessP c) (trkP c (IntKind.u16.wrap (R2.cnt.2.cnt.2.fix 2).1))).over.e := by unfold okeF okE; rw [hS5]
  have hRb : ∀ p q : Prop, okR l p q = @ite _ (((R2.cnt.2.cnt.2.fix 2).2.fix 2).2.e ≠ 0) (Classical.propDecidable _) ((R2.cnt.2.cnt.2.fix 2).2.fix 2).2 (@ite _ p (Classical.propDecidable _) (@ite _ q (Classical.propDecidable _) ((R2.cnt.2.cnt.2.fix 2).2.fix 2).2.txt.2.txt.2 (@ite _ (((R2.cnt.2.cnt.2.fix 2).2.fix 2).2.bs ≠ []) (Classical.propDecidable _) ((R2.cnt.2.cnt.2.fix 2).2.fix 2).2.txt.2 ((R2.cnt.2.cnt.2.fix 2).2.fix 2).2)) ⟨[], ((R2.cnt.2.cnt.2.fix 2).2.fix 2).2.e⟩) := fun p q => by unfold okR; rw [hS5]
  rw [hRa]
  clear hRa
  have hh3 : h3.nx < h6.nx := n6.2
  generalize h3.nx = o at *
  generalize ((R2.cnt.2.cnt.2.fix 2).2.fix 2).2 = R6 at *
  generalize (IntKind.u16.wrap (R2.cnt.2.cnt.2.fix 2).1) = st at *
  have l7 : R6.bs.length < 2 ^ 28 := by omega
  have hR7 : sessP c → trkP c st → okR l (sessP c) (trkP c st) = R6.txt.2.txt.2 := fun p q => by
    rw [hRb, if_pos p, if_pos q]
    by_cases he : R6.e ≠ 0
    · rw [if_pos he, Rd.txt_err he, Rd.txt_err he]
    · rw [if_neg he]
  have hR8 : sessP c → ¬ trkP c st → R6.bs ≠ [] → okR l (sessP c) (trkP c st) = R6.txt.2 := fun p q w => by
    rw [hRb, if_pos p, if_neg q, if_pos w]
    by_cases he : R6.e ≠ 0
    · rw [if_pos he, Rd.txt_err he]
    · rw [if_neg he]
  have hR9 : sessP c → ¬ trkP c st → R6.bs = [] → okR l (sessP c) (trkP c st) = R6 := fun p q w => by
    rw [hRb]
    by_cases he : R6.e ≠ 0
    · rw [if_pos he]
    · rw [if_neg he, if_pos p, if_neg q, if_neg (fun q => q w)]
  have hR10 : ¬ sessP c → okR l (sessP c) (trkP c st) = if R6.e ≠ 0 then R6 else ⟨[], R6.e⟩ := fun p => by
    rw [hRb, if_neg p]
    by_cases he : R6.e ≠ 0
    · rw [if_pos he, if_pos he]
    · rw [if_neg he, if_neg he]
  clear hRb
  simp +contextual (disch := first | (simp only [facts, clsL, clsS, clsC, isPtrD]; done) | omega | (simp only [push_nx, put_nx, del_nx]; omega) | (refine Nat.le_antisymm ?_ ?_ <;> simp only [push_nx, put_nx, del_nx] <;> omega) | fail) only [wpyr, facts, wpb, cst, wpk, wpl, forall_const, implies_true, false_implies, Int.reduceLE, Int.reduceLT, Nat.reduceLeDiff, UInt8.reduceToNat, ↓reduceIte, Nat.reduceEqDiff, Nat.reduceAdd, reduceCtorEq, Int.reduceToNat, clsL, clsS, clsC, Tryz.f36, g6]
  refine ⟨.inr (by omega), callF_exact (xhas_spec hS c 8388608 _) ?_⟩
  have f7 := f6.put [V.int IntKind.u64 R2.cnt.1, V.int IntKind.u64 R2.cnt.2.cnt.1, V.int IntKind.u16 st, V.int IntKind.u16 (IntKind.u16.wrap ((R2.cnt.2.cnt.2.fix 2).2.fix 2).1), V.str [], V.nilslice]
  revert f7
  generalize H.put h6 _ _ = h7
  intro f7
  obtain ⟨⟨v7, g7, hb7, ho7⟩, hlt7⟩ := f7.rd
  have g7o := f7.ob
  simp +contextual (disch := first | (simp only [facts, clsL, clsS, clsC, isPtrD]; done) | omega | (simp only [push_nx, put_nx, del_nx]; omega) | (refine Nat.le_antisymm ?_ ?_ <;> simp only [push_nx, put_nx, del_nx] <;> omega) | fail) only [wpyr, facts, wpb, cst, wpk, wpl, forall_const, implies_true, false_implies, Int.reduceLE, Int.reduceLT, Nat.reduceLeDiff, UInt8.reduceToNat, ↓reduceIte, Nat.reduceEqDiff, Nat.reduceAdd, reduceCtorEq, Int.reduceToNat, clsL, clsS, clsC, Tryz.f36]
  refine run_cut (fun env' h' => env' 4 = .ptr h.nx 0 ∧ env' 6 = .ptr (h.nx + 1) 0 ∧ env' 8 = .ptr o 0 ∧ ∃ y0 y1 y2 y3 y4 y5, FS h o (okR l (sessP c) (trkP c st)) [y0, y1, y2, y3, y4, y5] h' ∧ (y0.isCell && (y1.isCell && (y2.isCell && (y3.isCell && (y4.isCell && y5.isCell))))) = true) ?_ ?_
  · by_cases hs : sessP c
    · have hs' : hasP c 8388608 := hs
      have hlen := hb7.len 5
      by_cases hb0 : R6.bs = []
      · have hb1 : ¬ 0 < R6.bs.length := by rw [hb0]; decide
        simp +contextual (disch := first | (simp only [facts, clsL, clsS, clsC, isPtrD]; done) | omega | (simp only [push_nx, put_nx, del_nx]; omega) | (refine Nat.le_antisymm ?_ ?_ <;> simp only [push_nx, put_nx, del_nx] <;> omega) | fail) only [wpy, facts, wpb, cst, wpk, wpl, forall_const, implies_true, false_implies, Int.reduceLE, Int.reduceLT, Nat.reduceLeDiff, UInt8.reduceToNat, ↓reduceIte, Nat.reduceEqDiff, Nat.reduceAdd, reduceCtorEq, Int.reduceToNat, clsL, clsS, clsC, Tryz.f36, hs', g7, g7o, hlen, hb1]
        refine callF_exact (xtrack_spec hS c st _) ?_
        by_cases ht : trkP c st
        · rw [hR7 hs ht]
          simp +contextual (disch := first | (simp only [facts, clsL, clsS, clsC, isPtrD]; done) | omega | (simp only [push_nx, put_nx, del_nx]; omega) | (refine Nat.le_antisymm ?_ ?_ <;> simp only [push_nx, put_nx, del_nx] <;> omega) | fail) only [wpy, facts, wpb, cst, wpk, wpl, forall_const, implies_true, false_implies, Int.reduceLE, Int.reduceLT, Nat.reduceLeDiff, UInt8.reduceToNat, ↓reduceIte, Nat.reduceEqDiff, Nat.reduceAdd, reduceCtorEq, Int.reduceToNat, clsL, clsS, clsC, Tryz.f36, ht]
          refine callF_of (ftext_spec hS f7.rd (by omega)) okf ?_
          rintro _ h8 ⟨rfl, r8⟩
          have f8 := f7.call r8
          have g8 := f8.ob
          have n8 := f8.lt
          simp +contextual (disch := first | (simp only [facts, clsL, clsS, clsC, isPtrD]; done) | omega | (simp only [push_nx, put_nx, del_nx]; omega) | (refine Nat.le_antisymm ?_ ?_ <;> simp only [push_nx, put_nx, del_nx] <;> omega) | fail) only [wpy, facts, wpb, cst, wpk, wpl, forall_const, implies_true, false_implies, Int.reduceLE, Int.reduceLT, Nat.reduceLeDiff, UInt8.reduceToNat, ↓reduceIte, Nat.reduceEqDiff, Nat.reduceAdd, reduceCtorEq, Int.reduceToNat, clsL, clsS, clsC, Tryz.f36, g8]
          refine ⟨.inr (by omega), ?_⟩
          have f9 := f8.put [V.int IntKind.u64 R2.cnt.1, V.int IntKind.u64 R2.cnt.2.cnt.1, V.int IntKind.u16 st, V.int IntKind.u16 (IntKind.u16.wrap ((R2.cnt.2.cnt.2.fix 2).2.fix 2).1), V.str R6.txt.1, V.nilslice]
          revert f9
          generalize H.put h8 _ _ = h9
          intro f9
          have g9 := f9.ob
          refine callF_exact (xtrack_spec hS c st _) ?_
          simp +contextual (disch := first | (simp only [facts, clsL, clsS, clsC, isPtrD]; done) | omega | (simp only [push_nx, put_nx, del_nx]; omega) | (refine Nat.le_antisymm ?_ ?_ <;> simp only [push_nx, put_nx, del_nx] <;> omega) | fail) only [wpy, facts, wpb, cst, wpk, wpl, forall_const, implies_true, false_implies, Int.reduceLE, Int.reduceLT, Nat.reduceLeDiff, UInt8.reduceToNat, ↓reduceIte, Nat.reduceEqDiff, Nat.reduceAdd, reduceCtorEq, Int.reduceToNat, clsL, clsS, clsC, Tryz.f36, ht]
          have l8 := Rd.txt_len R6
          refine callF_of (ftext_spec hS f9.rd (by omega)) okf ?_
          rintro _ hE ⟨rfl, rE⟩
          have fE := f9.call rE
          have gE := fE.ob
          have nE := fE.lt
          have qE : ¬ o = hE.nx := by omega
          simp +contextual (disch := first | (simp only [facts, clsL, clsS, clsC, isPtrD]; done) | omega | (simp only [push_nx, put_nx, del_nx]; omega) | (refine Nat.le_antisymm ?_ ?_ <;> simp only [push_nx, put_nx, del_nx] <;> omega) | fail) only [wpy, facts, wpb, cst, wpk, wpl, forall_const, implies_true, false_implies, Int.reduceLE, Int.reduceLT, Nat.reduceLeDiff, UInt8.reduceToNat, ↓reduceIte, Nat.reduceEqDiff, Nat.reduceAdd, reduceCtorEq, Int.reduceToNat, clsL, clsS, clsC, Tryz.f36, gE, qE]
          exact ⟨.inr (by omega), _, _, _, _, _, _, (fE.ext2 ((Ext.refl _).push _)).put _, rfl⟩
        · rw [hR9 hs ht hb0]
          simp +contextual (disch := first | (simp only [facts, clsL, clsS, clsC, isPtrD]; done) | omega | (simp only [push_nx, put_nx, del_nx]; omega) | (refine Nat.le_antisymm ?_ ?_ <;> simp only [push_nx, put_nx, del_nx] <;> omega) | fail) only [wpy, facts, wpb, cst, wpk, wpl, forall_const, implies_true, false_implies, Int.reduceLE, Int.reduceLT, Nat.reduceLeDiff, UInt8.reduceToNat, ↓reduceIte, Nat.reduceEqDiff, Nat.reduceAdd, reduceCtorEq, Int.reduceToNat, clsL, clsS, clsC, Tryz.f36, ht]
          exact ⟨_, _, _, _, _, _, f7, rfl⟩
      · have hb1 : 0 < R6.bs.length := List.length_pos_iff.2 hb0
        simp +contextual (disch := first | (simp only [facts, clsL, clsS, clsC, isPtrD]; done) | omega | (simp only [push_nx, put_nx, del_nx]; omega) | (refine Nat.le_antisymm ?_ ?_ <;> simp only [push_nx, put_nx, del_nx] <;> omega) | fail) only [wpy, facts, wpb, cst, wpk, wpl, forall_const, implies_true, false_implies, Int.reduceLE, Int.reduceLT, Nat.reduceLeDiff, UInt8.reduceToNat, ↓reduceIte, Nat.reduceEqDiff, Nat.reduceAdd, reduceCtorEq, Int.reduceToNat, clsL, clsS, clsC, Tryz.f36, hs', g7, g7o, hlen, hb1]
        refine callF_of (ftext_spec hS f7.rd (by omega)) okf ?_
        rintro _ h8 ⟨rfl, r8⟩
        have f8 := f7.call r8
        have g8 := f8.ob
        have n8 := f8.lt
        simp +contextual (disch := first | (simp only [facts, clsL, clsS, clsC, isPtrD]; done) | omega | (simp only [push_nx, put_nx, del_nx]; omega) | (refine Nat.le_antisymm ?_ ?_ <;> simp only [push_nx, put_nx, del_nx] <;> omega) | fail) only [wpy, facts, wpb, cst, wpk, wpl, forall_const, implies_true, false_implies, Int.reduceLE, Int.reduceLT, Nat.reduceLeDiff, UInt8.reduceToNat, ↓reduceIte, Nat.reduceEqDiff, Nat.reduceAdd, reduceCtorEq, Int.reduceToNat, clsL, clsS, clsC, Tryz.f36, g8]
        refine ⟨.inr (by omega), ?_⟩
        have f9 := f8.put [V.int IntKind.u64 R2.cnt.1, V.int IntKind.u64 R2.cnt.2.cnt.1, V.int IntKind.u16 st, V.int IntKind.u16 (IntKind.u16.wrap ((R2.cnt.2.cnt.2.fix 2).2.fix 2).1), V.str R6.txt.1, V.nilslice]
        revert f9
        generalize H.put h8 _ _ = h9
        intro f9
        have g9 := f9.ob
        refine callF_exact (xtrack_spec hS c st _) ?_
        by_cases ht : trkP c st
        · rw [hR7 hs ht]
          simp +contextual (disch := first | (simp only [facts, clsL, clsS, clsC, isPtrD]; done) | omega | (simp only [push_nx, put_nx, del_nx]; omega) | (refine Nat.le_antisymm ?_ ?_ <;> simp only [push_nx, put_nx, del_nx] <;> omega) | fail) only [wpy, facts, wpb, cst, wpk, wpl, forall_const, implies_true, false_implies, Int.reduceLE, Int.reduceLT, Nat.reduceLeDiff, UInt8.reduceToNat, ↓reduceIte, Nat.reduceEqDiff, Nat.reduceAdd, reduceCtorEq, Int.reduceToNat, clsL, clsS, clsC, Tryz.f36, ht]
          have l8 := Rd.txt_len R6
          refine callF_of (ftext_spec hS f9.rd (by omega)) okf ?_
          rintro _ hE ⟨rfl, rE⟩
          have fE := f9.call rE
          have gE := fE.ob
          have nE := fE.lt
          have qE : ¬ o = hE.nx := by omega
          simp +contextual (disch := first | (simp only [facts, clsL, clsS, clsC, isPtrD]; done) | omega | (simp only [push_nx, put_nx, del_nx]; omega) | (refine Nat.le_antisymm ?_ ?_ <;> simp only [push_nx, put_nx, del_nx] <;> omega) | fail) only [wpy, facts, wpb, cst, wpk, wpl, forall_const, implies_true, false_implies, Int.reduceLE, Int.reduceLT, Nat.reduceLeDiff, UInt8.reduceToNat, ↓reduceIte, Nat.reduceEqDiff, Nat.reduceAdd, reduceCtorEq, Int.reduceToNat, clsL, clsS, clsC, Tryz.f36, gE, qE]
          exact ⟨.inr (by omega), _, _, _, _, _, _, (fE.ext2 ((Ext.refl _).push _)).put _, rfl⟩
        · rw [hR8 hs ht hb0]
          simp +contextual (disch := first | (simp only [facts, clsL, clsS, clsC, isPtrD]; done) | omega | (simp only [push_nx, put_nx, del_nx]; omega) | (refine Nat.le_antisymm ?_ ?_ <;> simp only [push_nx, put_nx, del_nx] <;> omega) | fail) only [wpy, facts, wpb, cst, wpk, wpl, forall_const, implies_true, false_implies, Int.reduceLE, Int.reduceLT, Nat.reduceLeDiff, UInt8.reduceToNat, ↓reduceIte, Nat.reduceEqDiff, Nat.reduceAdd, reduceCtorEq, Int.reduceToNat, clsL, clsS, clsC, Tryz.f36, ht]
          exact ⟨_, _, _, _, _, _, f9, rfl⟩
    · rw [hR10 hs]
      have hs' : ¬ hasP c 8388608 := hs
      simp +contextual (disch := first | (simp only [facts, clsL, clsS, clsC, isPtrD]; done) | omega | (simp only [push_nx, put_nx, del_nx]; omega) | (refine Nat.le_antisymm ?_ ?_ <;> simp only [push_nx, put_nx, del_nx] <;> omega) | fail) only [wpy, facts, wpb, cst, wpk, wpl, forall_const, implies_true, false_implies, Int.reduceLE, Int.reduceLT, Nat.reduceLeDiff, UInt8.reduceToNat, ↓reduceIte, Nat.reduceEqDiff, Nat.reduceAdd, reduceCtorEq, Int.reduceToNat, clsL, clsS, clsC, Tryz.f36, hs']
      refine callF_of (frest_spec hS f7.rd l7) okf ?_
      rintro w8 h8 ⟨⟨l8, hw8⟩, r8⟩
      have f8 := f7.call r8
      have g8 := f8.ob
      have n8 := f8.lt
      obtain ⟨L8, _, hc8⟩ := hw8.str
      simp +contextual (disch := first | (simp only [facts, clsL, clsS, clsC, isPtrD]; done) | omega | (simp only [push_nx, put_nx, del_nx]; omega) | (refine Nat.le_antisymm ?_ ?_ <;> simp only [push_nx, put_nx, del_nx] <;> omega) | fail) only [wpy, facts, wpb, cst, wpk, wpl, forall_const, implies_true, false_implies, Int.reduceLE, Int.reduceLT, Nat.reduceLeDiff, UInt8.reduceToNat, ↓reduceIte, Nat.reduceEqDiff, Nat.reduceAdd, reduceCtorEq, Int.reduceToNat, clsL, clsS, clsC, Tryz.f36, hc8, g8]
      exact ⟨.inr (by omega), _, _, _, _, _, _, f8.put _, rfl⟩
  · rintro env' h8 ⟨e4, e6, e8, y0, y1, y2, y3, y4, y5, f8, hy⟩
    simp +contextual (disch := first | (simp only [facts, clsL, clsS, clsC, isPtrD]; done) | omega | (simp only [push_nx, put_nx, del_nx]; omega) | (refine Nat.le_antisymm ?_ ?_ <;> simp only [push_nx, put_nx, del_nx] <;> omega) | fail) only [wpy, facts, wpb, cst, wpk, wpl, forall_const, implies_true, false_implies, Int.reduceLE, Int.reduceLT, Nat.reduceLeDiff, UInt8.reduceToNat, ↓reduceIte, Nat.reduceEqDiff, Nat.reduceAdd, reduceCtorEq, Int.reduceToNat, clsL, clsS, clsC, Tryz.f36, e4, e6, e8]
    refine callF_of (fdone_spec hS f8.rd) okf ?_
    rintro _ h9 ⟨rfl, r9⟩
    have f9 := f8.call r9
    have gZ9 := f9.z
    have gO9 := f9.ob
    have n9 := f9.lt
    obtain ⟨⟨v9, g9, _, _⟩, hlt9⟩ := f9.rd
    unfold oz at gZ9
    by_cases he : (overF (okR l (sessP c) (trkP c st))).e = 0
    · have he' := eq_true he
      have he2 : (okR l (sessP c) (trkP c st)).over.e = 0 := he
      simp +contextual (disch := first | (simp only [facts, clsL, clsS, clsC, isPtrD]; done) | omega | (simp only [push_nx, put_nx, del_nx]; omega) | (refine Nat.le_antisymm ?_ ?_ <;> simp only [push_nx, put_nx, del_nx] <;> omega) | fail) only [wpy, facts, wpb, cst, wpk, wpl, forall_const, implies_true, false_implies, Int.reduceLE, Int.reduceLT, Nat.reduceLeDiff, UInt8.reduceToNat, ↓reduceIte, Nat.reduceEqDiff, Nat.reduceAdd, reduceCtorEq, Int.reduceToNat, clsL, clsS, clsC, Tryz.f36, e4, e6, e8, gZ9, gO9, he', hy, he2]
      exact ⟨f9.ext.put (Nat.le_refl _) _, y0, y1, y2, y3, y4, y5, rfl, hy⟩
    · simp +contextual (disch := first | (simp only [facts, clsL, clsS, clsC, isPtrD]; done) | omega | (simp only [push_nx, put_nx, del_nx]; omega) | (refine Nat.le_antisymm ?_ ?_ <;> simp only [push_nx, put_nx, del_nx] <;> omega) | fail) only [wpy, facts, wpb, cst, wpk, wpl, forall_const, implies_true, false_implies, Int.reduceLE, Int.reduceLT, Nat.reduceLeDiff, UInt8.reduceToNat, ↓reduceIte, Nat.reduceEqDiff, Nat.reduceAdd, reduceCtorEq, Int.reduceToNat, clsL, clsS, clsC, Tryz.f36, e4, e6, e8, gZ9, gO9, g9, he]
      refine draw_by [(4, 5)] (by kernel_rfl) ?_
      simp +contextual (disch := first | (simp only [facts, clsL, clsS, clsC, isPtrD]; done) | omega | (simp only [push_nx, put_nx, del_nx]; omega) | (refine Nat.le_antisymm ?_ ?_ <;> simp only [push_nx, put_nx, del_nx] <;> omega) | fail) only [wpy, facts, wpb, cst, wpk, wpl, forall_const, implies_true, false_implies, Int.reduceLE, Int.reduceLT, Nat.reduceLeDiff, UInt8.reduceToNat, ↓reduceIte, Nat.reduceEqDiff, Nat.reduceAdd, reduceCtorEq, Int.reduceToNat, clsL, clsS, clsC, Tryz.f36, e4, e6, e8, gZ9, gO9, g9, he]
      refine ⟨fun q hq => ?_, f9.ext.put (Nat.le_refl _) _, _, _, _, _, _, _, rfl, rfl⟩
      rw [List.mem_singleton.1 hq]
      exact pair_one rfl rfl (apart_blk fun x hx y hy => by
        rw [List.mem_singleton.1 (show x ∈ [_] from hx), List.mem_singleton.1 (show y ∈ [_] from hy)]
        show ¬ h.nx + 1 = h.nx
        omega)
end
end Go.Proofs.YtlffhbpkphigdaaGreatDoor
