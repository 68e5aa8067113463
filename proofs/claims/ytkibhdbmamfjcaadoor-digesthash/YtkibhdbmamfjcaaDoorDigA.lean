/-
  Several texts of one walk, joined.
-/
import Derived.Test.YtkibhdbmamfjcaaDoorProg
import Derived.Test.YtkibhdbmamfjcaaDoorWxZ
import Derived.Test.YtkibhdbmamfjcaaDoorScanB1
import Derived.Test.YtkibhdbmamfjcaaDoorLyP
/-
  Facts of types and shapes of the program of this seat, for the rules.
-/
set_option linter.unusedSimpArgs false
set_option linter.unusedVariables false
set_option linter.defProp false
namespace Go.Proofs.YtkibhdbmamfjcaaDoor
open Go.Proofs Go.Lx Go.Wx
noncomputable section
namespace D1

theorem ze26 : zeroL Tryd.prog 26 = some [.int .i64 0, .int .i64 0] := by kernel_rfl
theorem sz26 : szT Tryd.prog 26 = some 2 := by kernel_rfl
theorem ty26 : tyR Tryd.prog 26 = some (2, true) := by kernel_rfl
-- eq on type 26
theorem bu26 : buildV Tryd.prog 26 [] = some (.agg [.int .i64 0, .int .i64 0]) := by kernel_rfl
theorem by41 : byteS Tryd.prog 41 = true := by kernel_rfl
theorem el41 : elemS Tryd.prog 41 = 5 := by kernel_rfl
theorem ia41 (k o n m : Nat) (kd : IntKind) (i : Int) : indexAddrV Tryd.prog 41 (.slice k o n m) (.int kd i) = if 0 ≤ i ∧ i < n then some (.ptr k (o + i.toNat * 1)) else none := indexAddr_slice (e := 5) (by kernel_rfl) (by kernel_rfl) k o n m kd i
theorem ty5 : tyR Tryd.prog 5 = some (1, false) := by kernel_rfl
theorem bs41_2 (v0_0 v1_0 : V) : buildSliceL Tryd.prog 41 2 [(0, [v0_0]), (1, [v1_0])] = some ([v0_0, v1_0], 5) := by kernel_rfl
theorem ap41 : apI Tryd.prog 41 = some (5, 1, 1) := by kernel_rfl
theorem ia23 (k o n m : Nat) (kd : IntKind) (i : Int) : indexAddrV Tryd.prog 23 (.slice k o n m) (.int kd i) = if 0 ≤ i ∧ i < n then some (.ptr k (o + i.toNat * 3)) else none := indexAddr_slice (e := 36) (by kernel_rfl) (by kernel_rfl) k o n m kd i
theorem ty36 : tyR Tryd.prog 36 = some (3, true) := by kernel_rfl
theorem ze36 : zeroL Tryd.prog 36 = some [.int .i64 0, .str [], .int .i64 0] := by kernel_rfl
theorem sz36 : szT Tryd.prog 36 = some 3 := by kernel_rfl
theorem fa36_1 (k o : Nat) : fieldAddrV Tryd.prog 36 (.ptr k o) 1 = some (.ptr k (o + 1)) := by kernel_rfl
theorem ty9 : tyR Tryd.prog 9 = some (1, false) := by kernel_rfl
theorem fa36_0 (k o : Nat) : fieldAddrV Tryd.prog 36 (.ptr k o) 0 = some (.ptr k (o + 0)) := by kernel_rfl
theorem ty3 : tyR Tryd.prog 3 = some (1, false) := by kernel_rfl
theorem bs29_1 (v0_0 : V) : buildSliceL Tryd.prog 29 1 [(0, [v0_0])] = some ([v0_0], 9) := by kernel_rfl
theorem ap29 : apI Tryd.prog 29 = some (9, 1, 16) := by kernel_rfl
theorem bs23_1 (v0_0 v0_1 v0_2 : V) : buildSliceL Tryd.prog 23 1 [(0, [v0_0, v0_1, v0_2])] = some ([v0_0, v0_1, v0_2], 36) := by kernel_rfl
theorem ap23 : apI Tryd.prog 23 = some (36, 3, 32) := by kernel_rfl
theorem bs23_3 (v0_0 v0_1 v0_2 v1_0 v1_1 v1_2 v2_0 v2_1 v2_2 : V) : buildSliceL Tryd.prog 23 3 [(0, [v0_0, v0_1, v0_2]), (1, [v1_0, v1_1, v1_2]), (2, [v2_0, v2_1, v2_2])] = some ([v0_0, v0_1, v0_2, v1_0, v1_1, v1_2, v2_0, v2_1, v2_2], 36) := by kernel_rfl
theorem bs29_2 (v0_0 v1_0 : V) : buildSliceL Tryd.prog 29 2 [(0, [v0_0]), (1, [v1_0])] = some ([v0_0, v1_0], 9) := by kernel_rfl
theorem bs29_3 (v0_0 v1_0 v2_0 : V) : buildSliceL Tryd.prog 29 3 [(0, [v0_0]), (1, [v1_0]), (2, [v2_0])] = some ([v0_0, v1_0, v2_0], 9) := by kernel_rfl
theorem fa36_2 (k o : Nat) : fieldAddrV Tryd.prog 36 (.ptr k o) 2 = some (.ptr k (o + 2)) := by kernel_rfl
theorem bu36_0_2 (v0_0 v2_0 : V) : buildV Tryd.prog 36 [(0, [v0_0]), (2, [v2_0])] = some (.agg [v0_0, .str [], v2_0]) := by kernel_rfl
theorem bu140_0_1 (v0_0 v1_0 v1_1 v1_2 v1_3 v1_4 v1_5 v1_6 v1_7 : V) : buildV Tryd.prog 140 [(0, [v0_0]), (1, [v1_0, v1_1, v1_2, v1_3, v1_4, v1_5, v1_6, v1_7])] = some (.agg [v0_0, v1_0, v1_1, v1_2, v1_3, v1_4, v1_5, v1_6, v1_7, .int .u8 0, .int .u8 0, .int .u8 0, .int .u8 0, .int .u8 0, .int .u8 0, .int .u8 0, .int .u8 0, .int .u8 0, .int .u8 0, .int .u8 0, .int .u8 0, .int .u8 0, .int .u8 0, .int .u8 0, .int .u8 0, .int .u8 0, .int .u8 0, .int .u8 0, .int .u8 0, .int .u8 0, .int .u8 0, .int .u8 0, .int .u8 0, .int .u8 0, .int .u8 0, .int .u8 0, .int .u8 0, .int .u8 0, .int .u8 0, .int .u8 0, .int .u8 0, .int .u8 0, .int .u8 0, .int .u8 0, .int .u8 0, .int .u8 0, .int .u8 0, .int .u8 0, .int .u8 0, .int .u8 0, .int .u8 0, .int .u8 0, .int .u8 0, .int .u8 0, .int .u8 0, .int .u8 0, .int .u8 0, .int .u8 0, .int .u8 0, .int .u8 0, .int .u8 0, .int .u8 0, .int .u8 0, .int .u8 0, .int .u8 0, .int .u8 0, .int .u8 0, .int .u8 0, .int .u8 0, .int .u8 0, .int .u8 0, .int .u8 0, .int .u8 0, .int .i64 0, .int .i64 0]) := by kernel_rfl
theorem fa140_4 (k o : Nat) : fieldAddrV Tryd.prog 140 (.ptr k o) 4 = some (.ptr k (o + 74)) := by kernel_rfl
theorem sz3 : szT Tryd.prog 3 = some 1 := by kernel_rfl
theorem ty140 : tyR Tryd.prog 140 = some (75, true) := by kernel_rfl
theorem ze140 : zeroL Tryd.prog 140 = some [.int .i64 0, .int .u32 0, .int .u32 0, .int .u32 0, .int .u32 0, .int .u32 0, .int .u32 0, .int .u32 0, .int .u32 0, .int .u8 0, .int .u8 0, .int .u8 0, .int .u8 0, .int .u8 0, .int .u8 0, .int .u8 0, .int .u8 0, .int .u8 0, .int .u8 0, .int .u8 0, .int .u8 0, .int .u8 0, .int .u8 0, .int .u8 0, .int .u8 0, .int .u8 0, .int .u8 0, .int .u8 0, .int .u8 0, .int .u8 0, .int .u8 0, .int .u8 0, .int .u8 0, .int .u8 0, .int .u8 0, .int .u8 0, .int .u8 0, .int .u8 0, .int .u8 0, .int .u8 0, .int .u8 0, .int .u8 0, .int .u8 0, .int .u8 0, .int .u8 0, .int .u8 0, .int .u8 0, .int .u8 0, .int .u8 0, .int .u8 0, .int .u8 0, .int .u8 0, .int .u8 0, .int .u8 0, .int .u8 0, .int .u8 0, .int .u8 0, .int .u8 0, .int .u8 0, .int .u8 0, .int .u8 0, .int .u8 0, .int .u8 0, .int .u8 0, .int .u8 0, .int .u8 0, .int .u8 0, .int .u8 0, .int .u8 0, .int .u8 0, .int .u8 0, .int .u8 0, .int .u8 0, .int .i64 0, .int .i64 0] := by kernel_rfl
theorem sz140 : szT Tryd.prog 140 = some 75 := by kernel_rfl
theorem bs41_1 (v0_0 : V) : buildSliceL Tryd.prog 41 1 [(0, [v0_0])] = some ([v0_0], 5) := by kernel_rfl
theorem fa140_3 (k o : Nat) : fieldAddrV Tryd.prog 140 (.ptr k o) 3 = some (.ptr k (o + 73)) := by kernel_rfl
theorem fa140_1 (k o : Nat) : fieldAddrV Tryd.prog 140 (.ptr k o) 1 = some (.ptr k (o + 1)) := by kernel_rfl
theorem fa140_0 (k o : Nat) : fieldAddrV Tryd.prog 140 (.ptr k o) 0 = some (.ptr k (o + 0)) := by kernel_rfl
theorem ia143 (k o n m : Nat) (kd : IntKind) (i : Int) : indexAddrV Tryd.prog 143 (.slice k o n m) (.int kd i) = if 0 ≤ i ∧ i < n then some (.ptr k (o + i.toNat * 1)) else none := indexAddr_slice (e := 135) (by kernel_rfl) (by kernel_rfl) k o n m kd i
theorem ty135 : tyR Tryd.prog 135 = some (1, false) := by kernel_rfl
theorem bs41_4 (v0_0 v1_0 v2_0 v3_0 : V) : buildSliceL Tryd.prog 41 4 [(0, [v0_0]), (1, [v1_0]), (2, [v2_0]), (3, [v3_0])] = some ([v0_0, v1_0, v2_0, v3_0], 5) := by kernel_rfl
theorem ty136 : tyR Tryd.prog 136 = some (8, true) := by kernel_rfl
theorem ze136 : zeroL Tryd.prog 136 = some [.int .u32 0, .int .u32 0, .int .u32 0, .int .u32 0, .int .u32 0, .int .u32 0, .int .u32 0, .int .u32 0] := by kernel_rfl
theorem bu136_0_1_2_3_4 (v0_0 v1_0 v2_0 v3_0 v4_0 : V) : buildV Tryd.prog 136 [(0, [v0_0]), (1, [v1_0]), (2, [v2_0]), (3, [v3_0]), (4, [v4_0])] = some (.agg [v0_0, v1_0, v2_0, v3_0, v4_0, .int .u32 0, .int .u32 0, .int .u32 0]) := by kernel_rfl
theorem sz136 : szT Tryd.prog 136 = some 8 := by kernel_rfl
theorem bu136 (v0_0 v1_0 v2_0 v3_0 v4_0 v5_0 v6_0 v7_0 : V) : buildV Tryd.prog 136 [(0, [v0_0]), (1, [v1_0]), (2, [v2_0]), (3, [v3_0]), (4, [v4_0]), (5, [v5_0]), (6, [v6_0]), (7, [v7_0])] = some (.agg [v0_0, v1_0, v2_0, v3_0, v4_0, v5_0, v6_0, v7_0]) := by kernel_rfl
theorem ps104 : ptrSz Tryd.prog 104 = true := by kernel_rfl
theorem fa140_2 (k o : Nat) : fieldAddrV Tryd.prog 140 (.ptr k o) 2 = some (.ptr k (o + 9)) := by kernel_rfl
theorem ia138 (k o : Nat) (kd : IntKind) (i : Int) : indexAddrV Tryd.prog 138 (.ptr k o) (.int kd i) = if 0 ≤ i ∧ i < ((64 : Nat) : Int) then some (.ptr k (o + i.toNat * 1)) else none := indexAddr_array (e := 5) (by kernel_rfl) (by kernel_rfl) k o kd i
theorem sz5 : szT Tryd.prog 5 = some 1 := by kernel_rfl
theorem ia29 (k o n m : Nat) (kd : IntKind) (i : Int) : indexAddrV Tryd.prog 29 (.slice k o n m) (.int kd i) = if 0 ≤ i ∧ i < n then some (.ptr k (o + i.toNat * 1)) else none := indexAddr_slice (e := 9) (by kernel_rfl) (by kernel_rfl) k o n m kd i
theorem ze172 : zeroL Tryd.prog 172 = some [.int .u32 0, .int .u32 0, .int .u32 0, .int .u32 0, .int .u32 0, .int .u32 0, .int .u32 0, .int .u32 0, .int .u32 0, .int .u32 0, .int .u32 0, .int .u32 0, .int .u32 0, .int .u32 0, .int .u32 0, .int .u32 0, .int .u32 0, .int .u32 0, .int .u32 0, .int .u32 0, .int .u32 0, .int .u32 0, .int .u32 0, .int .u32 0, .int .u32 0, .int .u32 0, .int .u32 0, .int .u32 0, .int .u32 0, .int .u32 0, .int .u32 0, .int .u32 0, .int .u32 0, .int .u32 0, .int .u32 0, .int .u32 0, .int .u32 0, .int .u32 0, .int .u32 0, .int .u32 0, .int .u32 0, .int .u32 0, .int .u32 0, .int .u32 0, .int .u32 0, .int .u32 0, .int .u32 0, .int .u32 0, .int .u32 0, .int .u32 0, .int .u32 0, .int .u32 0, .int .u32 0, .int .u32 0, .int .u32 0, .int .u32 0, .int .u32 0, .int .u32 0, .int .u32 0, .int .u32 0, .int .u32 0, .int .u32 0, .int .u32 0, .int .u32 0, .int .u32 0, .int .u32 0, .int .u32 0, .int .u32 0, .int .u32 0, .int .u32 0, .int .u32 0, .int .u32 0, .int .u32 0, .int .u32 0, .int .u32 0, .int .u32 0, .int .u32 0, .int .u32 0, .int .u32 0, .int .u32 0] := by kernel_rfl
theorem ia172 (k o : Nat) (kd : IntKind) (i : Int) : indexAddrV Tryd.prog 172 (.ptr k o) (.int kd i) = if 0 ≤ i ∧ i < ((80 : Nat) : Int) then some (.ptr k (o + i.toNat * 1)) else none := indexAddr_array (e := 135) (by kernel_rfl) (by kernel_rfl) k o kd i
theorem sz135 : szT Tryd.prog 135 = some 1 := by kernel_rfl
theorem ia136 (k o : Nat) (kd : IntKind) (i : Int) : indexAddrV Tryd.prog 136 (.ptr k o) (.int kd i) = if 0 ≤ i ∧ i < ((8 : Nat) : Int) then some (.ptr k (o + i.toNat * 1)) else none := indexAddr_array (e := 135) (by kernel_rfl) (by kernel_rfl) k o kd i
theorem bu175 (v0_0 v1_0 v2_0 v3_0 v4_0 : V) : buildV Tryd.prog 175 [(0, [v0_0]), (1, [v1_0]), (2, [v2_0]), (3, [v3_0]), (4, [v4_0])] = some (.agg [v0_0, v1_0, v2_0, v3_0, v4_0]) := by kernel_rfl
theorem ze176 : zeroL Tryd.prog 176 = some [.int .u32 0, .int .u32 0, .int .u32 0, .int .u32 0, .int .u32 0, .int .u32 0, .int .u32 0, .int .u32 0, .int .u32 0, .int .u32 0, .int .u32 0, .int .u32 0, .int .u32 0, .int .u32 0, .int .u32 0, .int .u32 0, .int .u32 0, .int .u32 0, .int .u32 0, .int .u32 0, .int .u32 0, .int .u32 0, .int .u32 0, .int .u32 0, .int .u32 0, .int .u32 0, .int .u32 0, .int .u32 0, .int .u32 0, .int .u32 0, .int .u32 0, .int .u32 0, .int .u32 0, .int .u32 0, .int .u32 0, .int .u32 0, .int .u32 0, .int .u32 0, .int .u32 0, .int .u32 0, .int .u32 0, .int .u32 0, .int .u32 0, .int .u32 0, .int .u32 0, .int .u32 0, .int .u32 0, .int .u32 0, .int .u32 0, .int .u32 0, .int .u32 0, .int .u32 0, .int .u32 0, .int .u32 0, .int .u32 0, .int .u32 0, .int .u32 0, .int .u32 0, .int .u32 0, .int .u32 0, .int .u32 0, .int .u32 0, .int .u32 0, .int .u32 0] := by kernel_rfl
theorem ia176 (k o : Nat) (kd : IntKind) (i : Int) : indexAddrV Tryd.prog 176 (.ptr k o) (.int kd i) = if 0 ≤ i ∧ i < ((64 : Nat) : Int) then some (.ptr k (o + i.toNat * 1)) else none := indexAddr_array (e := 135) (by kernel_rfl) (by kernel_rfl) k o kd i
theorem sz176 : szT Tryd.prog 176 = some 64 := by kernel_rfl
theorem ty176 : tyR Tryd.prog 176 = some (64, true) := by kernel_rfl
theorem bu176 (v0_0 v1_0 v2_0 v3_0 v4_0 v5_0 v6_0 v7_0 v8_0 v9_0 v10_0 v11_0 v12_0 v13_0 v14_0 v15_0 v16_0 v17_0 v18_0 v19_0 v20_0 v21_0 v22_0 v23_0 v24_0 v25_0 v26_0 v27_0 v28_0 v29_0 v30_0 v31_0 v32_0 v33_0 v34_0 v35_0 v36_0 v37_0 v38_0 v39_0 v40_0 v41_0 v42_0 v43_0 v44_0 v45_0 v46_0 v47_0 v48_0 v49_0 v50_0 v51_0 v52_0 v53_0 v54_0 v55_0 v56_0 v57_0 v58_0 v59_0 v60_0 v61_0 v62_0 v63_0 : V) : buildV Tryd.prog 176 [(0, [v0_0]), (1, [v1_0]), (2, [v2_0]), (3, [v3_0]), (4, [v4_0]), (5, [v5_0]), (6, [v6_0]), (7, [v7_0]), (8, [v8_0]), (9, [v9_0]), (10, [v10_0]), (11, [v11_0]), (12, [v12_0]), (13, [v13_0]), (14, [v14_0]), (15, [v15_0]), (16, [v16_0]), (17, [v17_0]), (18, [v18_0]), (19, [v19_0]), (20, [v20_0]), (21, [v21_0]), (22, [v22_0]), (23, [v23_0]), (24, [v24_0]), (25, [v25_0]), (26, [v26_0]), (27, [v27_0]), (28, [v28_0]), (29, [v29_0]), (30, [v30_0]), (31, [v31_0]), (32, [v32_0]), (33, [v33_0]), (34, [v34_0]), (35, [v35_0]), (36, [v36_0]), (37, [v37_0]), (38, [v38_0]), (39, [v39_0]), (40, [v40_0]), (41, [v41_0]), (42, [v42_0]), (43, [v43_0]), (44, [v44_0]), (45, [v45_0]), (46, [v46_0]), (47, [v47_0]), (48, [v48_0]), (49, [v49_0]), (50, [v50_0]), (51, [v51_0]), (52, [v52_0]), (53, [v53_0]), (54, [v54_0]), (55, [v55_0]), (56, [v56_0]), (57, [v57_0]), (58, [v58_0]), (59, [v59_0]), (60, [v60_0]), (61, [v61_0]), (62, [v62_0]), (63, [v63_0])] = some (.agg [v0_0, v1_0, v2_0, v3_0, v4_0, v5_0, v6_0, v7_0, v8_0, v9_0, v10_0, v11_0, v12_0, v13_0, v14_0, v15_0, v16_0, v17_0, v18_0, v19_0, v20_0, v21_0, v22_0, v23_0, v24_0, v25_0, v26_0, v27_0, v28_0, v29_0, v30_0, v31_0, v32_0, v33_0, v34_0, v35_0, v36_0, v37_0, v38_0, v39_0, v40_0, v41_0, v42_0, v43_0, v44_0, v45_0, v46_0, v47_0, v48_0, v49_0, v50_0, v51_0, v52_0, v53_0, v54_0, v55_0, v56_0, v57_0, v58_0, v59_0, v60_0, v61_0, v62_0, v63_0]) := by kernel_rfl
noncomputable def factsT := And.intro @Tryd.underlying3 <| And.intro @Tryd.underlying4 <| And.intro @Tryd.underlying5 <| And.intro @Tryd.underlying9 <| And.intro @Tryd.underlying23 <| And.intro @Tryd.underlying24 <| And.intro @Tryd.underlying26 <| And.intro @Tryd.underlying29 <| And.intro @Tryd.underlying36 <| And.intro @Tryd.underlying41 <| And.intro @Tryd.underlying71 <| And.intro @Tryd.underlying104 <| And.intro @Tryd.underlying135 <| And.intro @Tryd.underlying136 <| And.intro @Tryd.underlying138 <| And.intro @Tryd.underlying142 <| And.intro @Tryd.underlying143 <| And.intro @Tryd.underlying175 <| And.intro @Tryd.underlying176 <| And.intro @ze26 <| And.intro @sz26 <| And.intro @ty26 <| And.intro @bu26 <| And.intro @by41 <| And.intro @el41 <| And.intro @ia41 <| And.intro @ty5 <| And.intro @bs41_2 <| And.intro @ap41 <| And.intro @ia23 <| And.intro @ty36 <| And.intro @ze36 <| And.intro @sz36 <| And.intro @fa36_1 <| And.intro @ty9 <| And.intro @fa36_0 <| And.intro @ty3 <| And.intro @bs29_1 <| And.intro @ap29 <| And.intro @bs23_1 <| And.intro @ap23 <| And.intro @bs23_3 <| And.intro @bs29_2 <| And.intro @bs29_3 <| And.intro @fa36_2 <| And.intro @bu36_0_2 <| And.intro @bu140_0_1 <| And.intro @fa140_4 <| And.intro @sz3 <| And.intro @ty140 <| And.intro @ze140 <| And.intro @sz140 <| And.intro @bs41_1 <| And.intro @fa140_3 <| And.intro @fa140_1 <| And.intro @fa140_0 <| And.intro @ia143 <| And.intro @ty135 <| And.intro @bs41_4 <| And.intro @ty136 <| And.intro @ze136 <| And.intro @bu136_0_1_2_3_4 <| And.intro @sz136 <| And.intro @bu136 <| And.intro @ps104 <| And.intro @fa140_2 <| And.intro @ia138 <| And.intro @sz5 <| And.intro @ia29 <| And.intro @ze172 <| And.intro @ia172 <| And.intro @sz135 <| And.intro @ia136 <| And.intro @bu175 <| And.intro @ze176 <| And.intro @ia176 <| And.intro @sz176 <| And.intro @ty176 <| @bu176

end D1
end
end Go.Proofs.YtkibhdbmamfjcaaDoor

/-
  digest: words with what changes taken out: some words, no more than there were, whose texts are no longer than theirs.
-/
set_option linter.unusedSimpArgs false
set_option linter.unusedVariables false
set_option linter.defProp false
set_option maxRecDepth 10000
namespace Go.Proofs.YtkibhdbmamfjcaaDoor
open Go.Proofs Go.Lx Go.Wx Go.IntWalk
noncomputable section

theorem gOp_no {c : Cfg} {Ok : Nat → Prop} {op : Op} {env : Env} {h : H} {K : V → H → Fp → Prop} : gOp c Ok False op env h K = K undefV h (.lg []) := by unfold gOp; simp
theorem gOp_yes {c : Cfg} {Ok : Nat → Prop} {op : Op} {env : Env} {h : H} {K : V → H → Fp → Prop} : gOp c Ok True op env h K = opW c Ok op env h K := by unfold gOp; simp
noncomputable def factsC := And.intro @facts <| And.intro @D1.factsT <| And.intro @gOp_no @gOp_yes

theorem wcells_drop : ∀ (ws : List WD) (i : Nat), (wcells ws).drop (i * 3) = wcells (ws.drop i)
  | ws, 0 => by simp
  | [], i + 1 => by simp [wcells]
  | w :: l, i + 1 => by
    have ih := wcells_drop l i
    rw [show (i + 1) * 3 = 3 + i * 3 by omega, List.drop_succ_cons, ← ih, show wcells (w :: l) = w.cells ++ wcells l from rfl, ← List.drop_drop]
    rfl
/-- a word of a row -/
def gw (ws : List WD) (i : Nat) : WD := ws.getD i ⟨0, [], 0⟩
theorem gw_eq {ws : List WD} {i : Nat} (hi : i < ws.length) : gw ws i = ws[i] := by
  unfold gw
  rw [List.getD_eq_getElem?_getD, List.getElem?_eq_getElem hi]
  rfl
theorem drop_gw {ws : List WD} {i : Nat} (hi : i < ws.length) : ws.drop i = gw ws i :: ws.drop (i + 1) := by rw [gw_eq hi]; exact List.drop_eq_getElem_cons hi
theorem wcells_take : ∀ (ws : List WD) (i : Nat), (wcells ws).take (i * 3) = wcells (ws.take i)
  | ws, 0 => by simp [wcells]
  | [], i + 1 => by simp [wcells]
  | w :: l, i + 1 => by
    have ih := wcells_take l i
    rw [show (i + 1) * 3 = i * 3 + 1 + 1 + 1 by omega, List.take_succ_cons, show wcells (w :: l.take i) = w.cells ++ wcells (l.take i) from rfl, ← ih]
    rfl
/-- a row of words, somewhere in a block -/
def Wds (h : H) (v : V) (ws : List WD) : Prop := (v = .nilslice ∧ ws = []) ∨ ∃ b o m c fl, v = .slice b o ws.length m ∧ ws.length ≤ m ∧ b < h.nx ∧ h.get b = some (.cells c 36 fl) ∧ o + ws.length * 3 ≤ c.length ∧ (c.drop o).take (ws.length * 3) = wcells ws
theorem Wds.ext {h h' : H} {v : V} {ws : List WD} (hw : Wds h v ws) (hx : Ext h h') : Wds h' v ws := by
  rcases hw with h1 | ⟨b, o, m, c, fl, rfl, hm, hb, hg, hc⟩
  · exact .inl h1
  · exact .inr ⟨b, o, m, c, fl, rfl, hm, Nat.lt_of_lt_of_le hb hx.1, by rw [hx.2 b hb]; exact hg, hc⟩
theorem Wds.cell {h : H} {v : V} {ws : List WD} (hw : Wds h v ws) : v.isCell = true ∧ v.cells = [v] := by
  rcases hw with ⟨rfl, _⟩ | ⟨b, o, m, c, fl, rfl, _⟩ <;> exact ⟨rfl, rfl⟩
theorem Wds.len {h : H} {v : V} {ws : List WD} (hw : Wds h v ws) : lenO (some (.slice 36)) v = some (.int .i64 ws.length) := by
  rcases hw with ⟨rfl, rfl⟩ | ⟨b, o, m, c, fl, rfl, _⟩ <;> rfl
/-- some words of a row, one behind the other -/
theorem row_sub {ws : List WD} {c : List V} {o i k : Nat} (hc : (c.drop o).take (ws.length * 3) = wcells ws) (hi : i + k ≤ ws.length) : (c.drop (o + i * 3)).take (k * 3) = wcells ((ws.drop i).take k) := by
  rw [← wcells_take, ← wcells_drop, ← hc, List.drop_take, List.take_take, List.drop_drop, Nat.min_eq_left (by rw [← Nat.sub_mul]; exact Nat.mul_le_mul_right _ (by omega))]
theorem Wds.get {h : H} {v : V} {ws : List WD} (hw : Wds h v ws) {i : Nat} (hi : i < ws.length) : ∃ b o m c fl, v = .slice b o ws.length m ∧ b < h.nx ∧ h.get b = some (.cells c 36 fl) ∧ o + i * 3 + 3 ≤ c.length ∧ (c.drop (o + i * 3)).take 3 = (gw ws i).cells := by
  rcases hw with ⟨rfl, rfl⟩ | ⟨b, o, m, c, fl, rfl, hm, hb, hg, hc, hc2⟩
  · simp at hi
  · refine ⟨b, o, m, c, fl, rfl, hb, hg, by omega, ?_⟩
    have := row_sub (i := i) (k := 1) hc2 (by omega)
    rw [Nat.one_mul, drop_gw hi, List.take_succ_cons, List.take_zero] at this
    rw [this]
    simp [wcells]
/-- a row of words, its block laid open -/
theorem Wds.opened {h : H} {v : V} {ws : List WD} (hw : Wds h v ws) (h0 : 0 < ws.length) : ∃ b o m c fl, v = .slice b o ws.length m ∧ ws.length ≤ m ∧ b < h.nx ∧ h.get b = some (.cells c 36 fl) ∧ (∀ i, i < ws.length → o + i * 3 + 3 ≤ c.length) ∧ (∀ i, i < ws.length → (c.drop (o + i * 3)).take 3 = [.int .i64 (gw ws i).kind, .str (gw ws i).text, .int .i64 (gw ws i).at_]) ∧ (c.drop o).take (ws.length * 3) = wcells ws := by
  rcases hw with ⟨rfl, rfl⟩ | ⟨b, o, m, c, fl, rfl, hm, hb, hg, hc, hc2⟩
  · simp at h0
  · refine ⟨b, o, m, c, fl, rfl, hm, hb, hg, fun i hi => by omega, fun i hi => ?_, hc2⟩
    have := row_sub (i := i) (k := 1) hc2 (by omega)
    rw [Nat.one_mul, drop_gw hi, List.take_succ_cons, List.take_zero] at this
    rw [this]
    simp [wcells, WD.cells]
theorem Wds.of_acc {n0 : Nat} {h : H} {v : V} {ws : List WD} (ha : Wx.Acc n0 h v (wcells ws) 36 3) : Wds h v ws := by
  rcases ha with ⟨rfl, hw⟩ | ⟨b, k, _, hb2, rfl, _, hg, hk⟩
  · refine .inl ⟨rfl, ?_⟩
    have := wcells_len ws
    rw [hw] at this
    exact List.eq_nil_of_length_eq_zero (by simp at this; omega)
  · have hl := wcells_len ws
    obtain rfl : k = ws.length := by omega
    refine .inr ⟨b, 0, ws.length, wcells ws, true, rfl, Nat.le_refl _, hb2, hg, by omega, ?_⟩
    rw [List.drop_zero, ← hl, List.take_length]
theorem wcells_one (w : WD) : wcells [w] = w.cells := by simp [wcells]
theorem wcells_app (a b : List WD) : wcells (a ++ b) = wcells a ++ wcells b := by simp [wcells]
theorem wcell (w : WD) : w.cells = [.int .i64 w.kind, .str w.text, .int .i64 w.at_] := rfl

/-- the setting: these functions are gone into; the library's two stand in -/
structure StdD (S : Set0) : Prop extends StdF S where
  ownD : ∀ f, f ∈ [50, 89, 88, 87, 126, 86, 125, 90, 127, 35, 64, 20, 128, 145, 24, 23] → sums S.exts f = none
  repl : sums S.exts 49 = some (pureM replV)
  join : sums S.exts 65 = some joinM

variable {S : Set0} (hS : StdD S)
include hS
/-- where a text is, or nowhere -/
theorem idxS_spec (ts : List (List Nat)) (t : List Nat) (b m : Nat) (e : TypeId) (fl : Bool) (h : H) (hs : ts.length < 2 ^ 40) (hg : h.get b = some (.cells (ts.map V.str) e fl)) : callW S.cfg nil1 145 [.slice b 0 ts.length m, .str t] h fun v h' => h' = h ∧ ∃ k : Int, v = .int .i64 k ∧ (0 ≤ k ↔ t ∈ ts) := by
  refine into Tryd.f145 _ Tryd.func145 (hS.ownD _ (by decide)) rfl rfl (by kernel_rfl) (by kernel_rfl) ?_
  simp +contextual (disch := first | (simp only [factsC, clsL, clsS, clsC, isPtrD]; done) | omega | (simp only [push_nx, put_nx, del_nx]; omega) | (refine Nat.le_antisymm ?_ ?_ <;> simp only [push_nx, put_nx, del_nx] <;> omega) | fail) only [wpy, factsC, wpb, cst, wpk, wpl, forall_const, implies_true, false_implies, Int.reduceLE, Int.reduceLT, Nat.reduceLeDiff, UInt8.reduceToNat, ↓reduceIte, Nat.reduceEqDiff, Nat.reduceAdd, reduceCtorEq, Int.reduceToNat, clsL, clsS, clsC, Tryd.f145]
  refine run_loop (fun k env h' => ∃ i : Nat, k = ts.length - i ∧ i ≤ ts.length ∧ env 0 = .slice b 0 ts.length m ∧ env 1 = .str t ∧ env 7 = .int .i64 ts.length ∧ env 8 = .int .i64 i ∧ h' = h ∧ t ∉ ts.take i) ts.length ⟨0, ?_⟩ ?_
  · simp +contextual (disch := first | (simp only [factsC, clsL, clsS, clsC, isPtrD]; done) | omega | (simp only [push_nx, put_nx, del_nx]; omega) | (refine Nat.le_antisymm ?_ ?_ <;> simp only [push_nx, put_nx, del_nx] <;> omega) | fail) only [wpy, factsC, wpb, cst, wpk, wpl, forall_const, implies_true, false_implies, Int.reduceLE, Int.reduceLT, Nat.reduceLeDiff, UInt8.reduceToNat, ↓reduceIte, Nat.reduceEqDiff, Nat.reduceAdd, reduceCtorEq, Int.reduceToNat, clsL, clsS, clsC]
    simp
  rintro k env h' ⟨i, rfl, hi, e0, e1, e7, e8, rfl, hno⟩
  by_cases hi2 : i < ts.length
  · have hgi : (ts.map V.str)[i]? = some (.str ts[i]) := by rw [List.getElem?_map, List.getElem?_eq_getElem hi2]; rfl
    by_cases h0 : t = ts[i]
    · have hin : t ∈ ts := by rw [h0]; exact List.getElem_mem hi2
      simp +contextual (disch := first | (simp only [factsC, clsL, clsS, clsC, isPtrD]; done) | omega | (simp only [push_nx, put_nx, del_nx]; omega) | (refine Nat.le_antisymm ?_ ?_ <;> simp only [push_nx, put_nx, del_nx] <;> omega) | fail) only [wpy, factsC, wpb, cst, wpk, wpl, forall_const, implies_true, false_implies, Int.reduceLE, Int.reduceLT, Nat.reduceLeDiff, UInt8.reduceToNat, ↓reduceIte, Nat.reduceEqDiff, Nat.reduceAdd, reduceCtorEq, Int.reduceToNat, clsL, clsS, clsC, Tryd.f145, e0, e1, e7, e8, hi2, hg, hgi, ← h0]
      exact ⟨_, rfl, by simp [hin]⟩
    · simp +contextual (disch := first | (simp only [factsC, clsL, clsS, clsC, isPtrD]; done) | omega | (simp only [push_nx, put_nx, del_nx]; omega) | (refine Nat.le_antisymm ?_ ?_ <;> simp only [push_nx, put_nx, del_nx] <;> omega) | fail) only [wpy, factsC, wpb, cst, wpk, wpl, forall_const, implies_true, false_implies, Int.reduceLE, Int.reduceLT, Nat.reduceLeDiff, UInt8.reduceToNat, ↓reduceIte, Nat.reduceEqDiff, Nat.reduceAdd, reduceCtorEq, Int.reduceToNat, clsL, clsS, clsC, Tryd.f145, e0, e1, e7, e8, hi2, hg, hgi, h0]
      refine ⟨_, ?_, i + 1, rfl, by omega, rfl, ?_⟩
      · omega
      rw [List.take_succ_eq_append_getElem hi2, List.mem_append]
      rintro (q | q)
      · exact hno q
      · rw [List.mem_singleton] at q
        exact h0 q
  · simp +contextual (disch := first | (simp only [factsC, clsL, clsS, clsC, isPtrD]; done) | omega | (simp only [push_nx, put_nx, del_nx]; omega) | (refine Nat.le_antisymm ?_ ?_ <;> simp only [push_nx, put_nx, del_nx] <;> omega) | fail) only [wpy, factsC, wpb, cst, wpk, wpl, forall_const, implies_true, false_implies, Int.reduceLE, Int.reduceLT, Nat.reduceLeDiff, UInt8.reduceToNat, ↓reduceIte, Nat.reduceEqDiff, Nat.reduceAdd, reduceCtorEq, Int.reduceToNat, clsL, clsS, clsC, Tryd.f145, e0, e1, e7, e8, hi2]
    rw [List.take_of_length_le (by omega)] at hno
    exact ⟨_, rfl, by simp [hno]⟩
theorem conS_spec (ts : List (List Nat)) (t : List Nat) (b m : Nat) (e : TypeId) (fl : Bool) (h : H) (hs : ts.length < 2 ^ 40) (hg : h.get b = some (.cells (ts.map V.str) e fl)) : Exact S.cfg 128 [.slice b 0 ts.length m, .str t] h (bo (t ∈ ts)) := by
  refine into Tryd.f128 _ Tryd.func128 (hS.ownD _ (by decide)) rfl rfl (by kernel_rfl) (by kernel_rfl) ?_
  simp +contextual (disch := first | (simp only [factsC, clsL, clsS, clsC, isPtrD]; done) | omega | (simp only [push_nx, put_nx, del_nx]; omega) | (refine Nat.le_antisymm ?_ ?_ <;> simp only [push_nx, put_nx, del_nx] <;> omega) | fail) only [wpy, factsC, wpb, cst, wpk, wpl, forall_const, implies_true, false_implies, Int.reduceLE, Int.reduceLT, Nat.reduceLeDiff, UInt8.reduceToNat, ↓reduceIte, Nat.reduceEqDiff, Nat.reduceAdd, reduceCtorEq, Int.reduceToNat, clsL, clsS, clsC, Tryd.f128]
  refine callF_of (idxS_spec hS ts t b m e fl h hs hg) (fun k q => q.elim) ?_
  rintro v h1 ⟨rfl, k, rfl, hk⟩
  simp +contextual (disch := first | (simp only [factsC, clsL, clsS, clsC, isPtrD]; done) | omega | (simp only [push_nx, put_nx, del_nx]; omega) | (refine Nat.le_antisymm ?_ ?_ <;> simp only [push_nx, put_nx, del_nx] <;> omega) | fail) only [wpy, factsC, wpb, cst, wpk, wpl, forall_const, implies_true, false_implies, Int.reduceLE, Int.reduceLT, Nat.reduceLeDiff, UInt8.reduceToNat, ↓reduceIte, Nat.reduceEqDiff, Nat.reduceAdd, reduceCtorEq, Int.reduceToNat, clsL, clsS, clsC, Tryd.f128]
  first | exact ⟨congrArg bo (propext hk), rfl⟩ | exact congrArg bo (propext hk) | trace_state
/-- is a word a sign of some? -/
def isS (w : WD) (ts : List (List Nat)) : Prop := w.kind = 5 ∧ w.text ∈ ts
noncomputable instance (w : WD) (ts : List (List Nat)) : Decidable (isS w ts) := Classical.propDecidable _
theorem dsign_spec (w : WD) (ts : List (List Nat)) (n b : Nat) (e : TypeId) (fl : Bool) (h : H) (hn : n = ts.length) (hs : ts.length < 2 ^ 40) (hb : b < h.nx) (hg : h.get b = some (.cells (ts.map V.str) e fl)) : Pure S.cfg 90 [.agg w.cells, .slice b 0 n n] h fun v _ => v = bo (isS w ts) := by
  subst hn
  refine into Tryd.f90 _ Tryd.func90 (hS.ownD _ (by decide)) rfl rfl (by kernel_rfl) (by kernel_rfl) ?_
  by_cases hk : w.kind = 5
  · simp +contextual (disch := first | (simp only [factsC, clsL, clsS, clsC, isPtrD]; done) | omega | (simp only [push_nx, put_nx, del_nx]; omega) | (refine Nat.le_antisymm ?_ ?_ <;> simp only [push_nx, put_nx, del_nx] <;> omega) | fail) only [wpy, factsC, wpb, cst, wpk, wpl, forall_const, implies_true, false_implies, Int.reduceLE, Int.reduceLT, Nat.reduceLeDiff, UInt8.reduceToNat, ↓reduceIte, Nat.reduceEqDiff, Nat.reduceAdd, reduceCtorEq, Int.reduceToNat, clsL, clsS, clsC, Tryd.f90, wcell, hk]
    refine callF_exact (conS_spec hS ts w.text b _ e fl _ hs ?_) ?_
    · rw [push_ne (by omega)]; exact hg
    simp +contextual (disch := first | (simp only [factsC, clsL, clsS, clsC, isPtrD]; done) | omega | (simp only [push_nx, put_nx, del_nx]; omega) | (refine Nat.le_antisymm ?_ ?_ <;> simp only [push_nx, put_nx, del_nx] <;> omega) | fail) only [wpy, factsC, wpb, cst, wpk, wpl, forall_const, implies_true, false_implies, Int.reduceLE, Int.reduceLT, Nat.reduceLeDiff, UInt8.reduceToNat, ↓reduceIte, Nat.reduceEqDiff, Nat.reduceAdd, reduceCtorEq, Int.reduceToNat, clsL, clsS, clsC, Tryd.f90, wcell, hk]
    exact ⟨(Ext.refl h).push _, bo_eq ⟨fun q => ⟨hk, q⟩, fun q => q.2⟩⟩
  · simp +contextual (disch := first | (simp only [factsC, clsL, clsS, clsC, isPtrD]; done) | omega | (simp only [push_nx, put_nx, del_nx]; omega) | (refine Nat.le_antisymm ?_ ?_ <;> simp only [push_nx, put_nx, del_nx] <;> omega) | fail) only [wpy, factsC, wpb, cst, wpk, wpl, forall_const, implies_true, false_implies, Int.reduceLE, Int.reduceLT, Nat.reduceLeDiff, UInt8.reduceToNat, ↓reduceIte, Nat.reduceEqDiff, Nat.reduceAdd, reduceCtorEq, Int.reduceToNat, clsL, clsS, clsC, Tryd.f90, wcell, hk]
    exact ⟨(Ext.refl h).push _, bo_eq ⟨fun q => q.elim, fun q => hk q.1⟩⟩
/-- the same, of what was just built -/
theorem dsign_new (w : WD) (ts : List (List Nat)) (n b : Nat) (e : TypeId) (fl : Bool) (h : H) (hb : b = h.nx) (hn : n = ts.length) (hs : ts.length < 2 ^ 40) : Pure S.cfg 90 [.agg w.cells, .slice b 0 n n] (h.push (.cells (ts.map V.str) e fl)) fun v _ => v = bo (isS w ts) := by
  subst hb
  exact dsign_spec hS w ts n _ e fl _ hn hs (Nat.lt_succ_self _) (push_eq rfl)
theorem param_spec (w : WD) (h : H) : Pure S.cfg 127 [.agg w.cells] h fun v _ => v = bo (w.kind = 8) := by
  refine into Tryd.f127 _ Tryd.func127 (hS.ownD _ (by decide)) rfl rfl (by kernel_rfl) (by kernel_rfl) ?_
  simp +contextual (disch := first | (simp only [factsC, clsL, clsS, clsC, isPtrD]; done) | omega | (simp only [push_nx, put_nx, del_nx]; omega) | (refine Nat.le_antisymm ?_ ?_ <;> simp only [push_nx, put_nx, del_nx] <;> omega) | fail) only [wpy, factsC, wpb, cst, wpk, wpl, forall_const, implies_true, false_implies, Int.reduceLE, Int.reduceLT, Nat.reduceLeDiff, UInt8.reduceToNat, ↓reduceIte, Nat.reduceEqDiff, Nat.reduceAdd, reduceCtorEq, Int.reduceToNat, clsL, clsS, clsC, Tryd.f127, wcell]
  exact (Ext.refl h).push _
omit hS in
/-- a word is appended -/
theorem app_word {env : Env} {s x : Operand} {n0 : Nat} {h : H} {l : V} {acc : List WD} (w : WD) {Ok : Nat → Prop} {K : V → H → Fp → Prop} (hsv : evalE env s = l) (hx : evalE env x = .slice h.nx 0 1 1) (ha : Wx.Acc n0 h l (wcells acc) 36 3) (hroom : acc.length < 2 ^ 28) (hOk : ∀ k, n0 ≤ k → Ok k) (hn0 : n0 ≤ h.nx)
    (hK : ∀ v h' L, Wx.Acc n0 h' v (wcells (acc ++ [w])) 36 3 → h.nx < h'.nx → (∀ k, k < n0 → h'.get k = h.get k) → K v h' (.lg L)) : opW S.cfg Ok (.call ⟨.builtin .append, #[s, x], #[23, 23]⟩) env (h.push (.cells w.cells 36 false)) K := by
  refine append_new (sv := l) (n0 := n0) hsv D1.ap23 ⟨.slice 36, by kernel_rfl, rfl⟩ ha hx (n := 1) (by decide) rfl rfl ?_ (by decide) hOk hn0 ?_
  · rw [wcells_len]
    show _ + 3 ≤ _
    omega
  · intro v h' L ha' hn' _ hf' _
    exact hK v h' L (by rw [wcells_append]; exact ha') hn' hf'
omit hS in
theorem ext_of {n0 h h' : H} (hx : Ext n0 h) (hn : h.nx < h'.nx) (hf : ∀ k, k < n0.nx → h'.get k = h.get k) : Ext n0 h' := ⟨by have := hx.1; omega, fun k hk => by rw [hf k hk, hx.2 k hk]⟩
/-- texts and numbers as parameters; odd remarks go -/
def val1 (w : WD) : List WD := if w.kind = 9 then [] else if w.kind = 3 ∨ w.kind = 4 then [⟨8, [], w.at_⟩] else [w]
def valF (ws : List WD) : List WD := ws.flatMap val1
omit hS in
theorem valF_step {ws : List WD} {i : Nat} (hi : i < ws.length) : valF (ws.take (i + 1)) = valF (ws.take i) ++ val1 (gw ws i) := by
  rw [gw_eq hi, valF, List.take_succ_eq_append_getElem hi, List.flatMap_append]
  simp [valF]
omit hS in
theorem flat_len {f : WD → List WD} (hf : ∀ w, (f w).length ≤ 1) : ∀ (l : List WD), (l.flatMap f).length ≤ l.length
  | [] => Nat.le_refl _
  | w :: l => by
    have h1 := flat_len hf l
    have h2 := hf w
    rw [List.flatMap_cons, List.length_append, List.length_cons]
    omega
omit hS in
theorem val1_len (w : WD) : (val1 w).length ≤ 1 := by
  unfold val1
  split
  · simp
  · split <;> simp
omit hS in
theorem valF_len (ws : List WD) : (valF ws).length ≤ ws.length := flat_len val1_len ws
set_option maxHeartbeats 1000000 in
theorem values_spec (lv : V) (ws : List WD) (h : H) (ha : Wds h lv ws) (hwl : ws.length < 2 ^ 27) : Pure S.cfg 89 [lv] h fun v h' => Wx.Acc h.nx h' v (wcells (valF ws)) 36 3 := by
  refine into Tryd.f89 _ Tryd.func89 (hS.ownD _ (by decide)) rfl rfl (by kernel_rfl) (by kernel_rfl) ?_
  have a1 := ha.len
  simp +contextual (disch := first | (simp only [factsC, clsL, clsS, clsC, isPtrD]; done) | omega | (simp only [push_nx, put_nx, del_nx]; omega) | (refine Nat.le_antisymm ?_ ?_ <;> simp only [push_nx, put_nx, del_nx] <;> omega) | fail) only [wpy, factsC, wpb, cst, wpk, wpl, forall_const, implies_true, false_implies, Int.reduceLE, Int.reduceLT, Nat.reduceLeDiff, UInt8.reduceToNat, ↓reduceIte, Nat.reduceEqDiff, Nat.reduceAdd, reduceCtorEq, Int.reduceToNat, clsL, clsS, clsC, Tryd.f89, a1]
  refine run_loop (fun k env h' => ∃ (i : Nat) (l : V), k = ws.length - i ∧ i ≤ ws.length ∧ env 3 = l ∧ env 6 = lv ∧ env 7 = .int .i64 ws.length ∧ env 8 = .int .i64 i ∧ Ext h h' ∧ Wx.Acc h.nx h' l (wcells (valF (ws.take i))) 36 3) ws.length ⟨0, .nilslice, ?_⟩ ?_
  · simp +contextual (disch := first | (simp only [factsC, clsL, clsS, clsC, isPtrD]; done) | omega | (simp only [push_nx, put_nx, del_nx]; omega) | (refine Nat.le_antisymm ?_ ?_ <;> simp only [push_nx, put_nx, del_nx] <;> omega) | fail) only [wpy, factsC, wpb, cst, wpk, wpl, forall_const, implies_true, false_implies, Int.reduceLE, Int.reduceLT, Nat.reduceLeDiff, UInt8.reduceToNat, ↓reduceIte, Nat.reduceEqDiff, Nat.reduceAdd, reduceCtorEq, Int.reduceToNat, clsL, clsS, clsC]
    exact ⟨by simp, Ext.refl _, .inl ⟨rfl, rfl⟩⟩
  rintro k env h' ⟨i, l, rfl, hi, e3, e6, e7, e8, hx, hl⟩
  have hxn := hx.1
  have hc1 := hl.cell.1
  have hc2 := hl.cell.2
  by_cases hi2 : i < ws.length
  · obtain ⟨b, o, mc, c, fl, rfl, hbn, hgb, w0, w1⟩ := (ha.ext hx).get hi2
    rw [wcell] at w1
    have hbn' : ¬ b = h'.nx := by omega
    have hacc : (valF (ws.take i)).length < 2 ^ 28 := by have := valF_len (ws.take i); rw [List.length_take] at this; omega
    have hst := valF_step hi2
    have hend : ∀ w : WD, val1 (gw ws i) = [w] → ∀ v h4, Wx.Acc h.nx h4 v (wcells (valF (ws.take i) ++ [w])) 36 3 → h'.nx + 1 < h4.nx → (∀ k, k < h.nx → h4.get k = h'.get k) → ∃ m', m' < ws.length - i ∧ ∃ (i' : Nat) (l : V), m' = ws.length - i' ∧ i' ≤ ws.length ∧ v = l ∧ i + 1 = i' ∧ Ext h h4 ∧ Wx.Acc h.nx h4 l (wcells (valF (ws.take i'))) 36 3 := fun w hw v h4 ha4 hn4 hf4 => ⟨_, by omega, i + 1, v, rfl, by omega, rfl, rfl, ⟨by omega, fun k hk => by rw [hf4 k hk, hx.2 k hk]⟩, by rw [hst, hw]; exact ha4⟩
    by_cases c9 : (gw ws i).kind = 9
    · simp +contextual (disch := first | (simp only [factsC, clsL, clsS, clsC, isPtrD]; done) | omega | (simp only [push_nx, put_nx, del_nx]; omega) | (refine Nat.le_antisymm ?_ ?_ <;> simp only [push_nx, put_nx, del_nx] <;> omega) | exact dok (by kernel_rfl)) only [draw_calm, draw_calmA, wpy, factsC, wpb, cst, wpk, wpl, forall_const, implies_true, false_implies, Int.reduceLE, Int.reduceLT, Nat.reduceLeDiff, UInt8.reduceToNat, ↓reduceIte, Nat.reduceEqDiff, Nat.reduceAdd, reduceCtorEq, Int.reduceToNat, clsL, clsS, clsC, Tryd.f89, e3, e6, e7, e8, hi2, hgb, hbn', w0, w1, c9]
      have hv : val1 (gw ws i) = [] := by rw [val1, if_pos c9]
      exact ⟨.inr hxn, _, by omega, i + 1, l, rfl, by omega, rfl, rfl, (hx.push _).put hxn _, by rw [hst, hv, List.append_nil]; exact hl.ext (Ext.new _ _ _)⟩
    by_cases c34 : (gw ws i).kind = 3 ∨ (gw ws i).kind = 4
    · have hv : val1 (gw ws i) = [⟨8, [], (gw ws i).at_⟩] := by rw [val1, if_neg c9, if_pos c34]
      rcases c34 with c3 | c4
      · simp +contextual (disch := first | (simp only [factsC, clsL, clsS, clsC, isPtrD]; done) | omega | (simp only [push_nx, put_nx, del_nx]; omega) | (refine Nat.le_antisymm ?_ ?_ <;> simp only [push_nx, put_nx, del_nx] <;> omega) | exact dok (by kernel_rfl)) only [draw_calm, draw_calmA, wpy, factsC, wpb, cst, wpk, wpl, forall_const, implies_true, false_implies, Int.reduceLE, Int.reduceLT, Nat.reduceLeDiff, UInt8.reduceToNat, ↓reduceIte, Nat.reduceEqDiff, Nat.reduceAdd, reduceCtorEq, Int.reduceToNat, clsL, clsS, clsC, Tryd.f89, e3, e6, e7, e8, hi2, hgb, hbn', w0, w1, c9, c3]
        refine ⟨.inr hxn, .inr hxn, app_word (n0 := h.nx) (l := l) (acc := valF (ws.take i)) ⟨8, [], (gw ws i).at_⟩ (by simp +contextual (disch := first | (simp only [factsC, clsL, clsS, clsC, isPtrD]; done) | omega | (simp only [push_nx, put_nx, del_nx]; omega) | (refine Nat.le_antisymm ?_ ?_ <;> simp only [push_nx, put_nx, del_nx] <;> omega) | fail) only [wpy, factsC, wpb, cst, wpk, wpl, forall_const, implies_true, false_implies, Int.reduceLE, Int.reduceLT, Nat.reduceLeDiff, UInt8.reduceToNat, ↓reduceIte, Nat.reduceEqDiff, Nat.reduceAdd, reduceCtorEq, Int.reduceToNat, clsL, clsS, clsC]) (by simp +contextual (disch := first | (simp only [factsC, clsL, clsS, clsC, isPtrD]; done) | omega | (simp only [push_nx, put_nx, del_nx]; omega) | (refine Nat.le_antisymm ?_ ?_ <;> simp only [push_nx, put_nx, del_nx] <;> omega) | fail) only [wpy, factsC, wpb, cst, wpk, wpl, forall_const, implies_true, false_implies, Int.reduceLE, Int.reduceLT, Nat.reduceLeDiff, UInt8.reduceToNat, ↓reduceIte, Nat.reduceEqDiff, Nat.reduceAdd, reduceCtorEq, Int.reduceToNat, clsL, clsS, clsC]) (hl.ext (((Ext.new _ _ _)).put (Nat.le_refl _) _)) hacc (fun k hk => by rw [fresh_def]; exact .inl hk) (by show h.nx ≤ h'.nx + 1; omega) ?_⟩
        intro v h4 L ha4 hn4 hf4
        have hv1 := ha4.cell.1
        have hv2 := ha4.cell.2
        simp +contextual (disch := first | (simp only [factsC, clsL, clsS, clsC, isPtrD]; done) | omega | (simp only [push_nx, put_nx, del_nx]; omega) | (refine Nat.le_antisymm ?_ ?_ <;> simp only [push_nx, put_nx, del_nx] <;> omega) | fail) only [wpy, factsC, wpb, cst, wpk, wpl, forall_const, implies_true, false_implies, Int.reduceLE, Int.reduceLT, Nat.reduceLeDiff, UInt8.reduceToNat, ↓reduceIte, Nat.reduceEqDiff, Nat.reduceAdd, reduceCtorEq, Int.reduceToNat, clsL, clsS, clsC, Tryd.f89, e3, e6, e7, e8, hv1, hv2]
        exact hend _ hv v h4 ha4 hn4 fun k hk => by rw [hf4 k hk, put_ne (by omega), put_ne (by omega), push_ne (by omega)]
      · have c3 : ¬ (gw ws i).kind = 3 := by omega
        simp +contextual (disch := first | (simp only [factsC, clsL, clsS, clsC, isPtrD]; done) | omega | (simp only [push_nx, put_nx, del_nx]; omega) | (refine Nat.le_antisymm ?_ ?_ <;> simp only [push_nx, put_nx, del_nx] <;> omega) | exact dok (by kernel_rfl)) only [draw_calm, draw_calmA, wpy, factsC, wpb, cst, wpk, wpl, forall_const, implies_true, false_implies, Int.reduceLE, Int.reduceLT, Nat.reduceLeDiff, UInt8.reduceToNat, ↓reduceIte, Nat.reduceEqDiff, Nat.reduceAdd, reduceCtorEq, Int.reduceToNat, clsL, clsS, clsC, Tryd.f89, e3, e6, e7, e8, hi2, hgb, hbn', w0, w1, c9, c3, c4]
        refine ⟨.inr hxn, .inr hxn, app_word (n0 := h.nx) (l := l) (acc := valF (ws.take i)) ⟨8, [], (gw ws i).at_⟩ (by simp +contextual (disch := first | (simp only [factsC, clsL, clsS, clsC, isPtrD]; done) | omega | (simp only [push_nx, put_nx, del_nx]; omega) | (refine Nat.le_antisymm ?_ ?_ <;> simp only [push_nx, put_nx, del_nx] <;> omega) | fail) only [wpy, factsC, wpb, cst, wpk, wpl, forall_const, implies_true, false_implies, Int.reduceLE, Int.reduceLT, Nat.reduceLeDiff, UInt8.reduceToNat, ↓reduceIte, Nat.reduceEqDiff, Nat.reduceAdd, reduceCtorEq, Int.reduceToNat, clsL, clsS, clsC]) (by simp +contextual (disch := first | (simp only [factsC, clsL, clsS, clsC, isPtrD]; done) | omega | (simp only [push_nx, put_nx, del_nx]; omega) | (refine Nat.le_antisymm ?_ ?_ <;> simp only [push_nx, put_nx, del_nx] <;> omega) | fail) only [wpy, factsC, wpb, cst, wpk, wpl, forall_const, implies_true, false_implies, Int.reduceLE, Int.reduceLT, Nat.reduceLeDiff, UInt8.reduceToNat, ↓reduceIte, Nat.reduceEqDiff, Nat.reduceAdd, reduceCtorEq, Int.reduceToNat, clsL, clsS, clsC]) (hl.ext (((Ext.new _ _ _)).put (Nat.le_refl _) _)) hacc (fun k hk => by rw [fresh_def]; exact .inl hk) (by show h.nx ≤ h'.nx + 1; omega) ?_⟩
        intro v h4 L ha4 hn4 hf4
        have hv1 := ha4.cell.1
        have hv2 := ha4.cell.2
        simp +contextual (disch := first | (simp only [factsC, clsL, clsS, clsC, isPtrD]; done) | omega | (simp only [push_nx, put_nx, del_nx]; omega) | (refine Nat.le_antisymm ?_ ?_ <;> simp only [push_nx, put_nx, del_nx] <;> omega) | fail) only [wpy, factsC, wpb, cst, wpk, wpl, forall_const, implies_true, false_implies, Int.reduceLE, Int.reduceLT, Nat.reduceLeDiff, UInt8.reduceToNat, ↓reduceIte, Nat.reduceEqDiff, Nat.reduceAdd, reduceCtorEq, Int.reduceToNat, clsL, clsS, clsC, Tryd.f89, e3, e6, e7, e8, hv1, hv2]
        exact hend _ hv v h4 ha4 hn4 fun k hk => by rw [hf4 k hk, put_ne (by omega), put_ne (by omega), push_ne (by omega)]
    · have c3 : ¬ (gw ws i).kind = 3 := fun q => c34 (.inl q)
      have c4 : ¬ (gw ws i).kind = 4 := fun q => c34 (.inr q)
      have hv : val1 (gw ws i) = [gw ws i] := by rw [val1, if_neg c9, if_neg c34]
      simp +contextual (disch := first | (simp only [factsC, clsL, clsS, clsC, isPtrD]; done) | omega | (simp only [push_nx, put_nx, del_nx]; omega) | (refine Nat.le_antisymm ?_ ?_ <;> simp only [push_nx, put_nx, del_nx] <;> omega) | exact dok (by kernel_rfl)) only [draw_calm, draw_calmA, wpy, factsC, wpb, cst, wpk, wpl, forall_const, implies_true, false_implies, Int.reduceLE, Int.reduceLT, Nat.reduceLeDiff, UInt8.reduceToNat, ↓reduceIte, Nat.reduceEqDiff, Nat.reduceAdd, reduceCtorEq, Int.reduceToNat, clsL, clsS, clsC, Tryd.f89, e3, e6, e7, e8, hi2, hgb, hbn', w0, w1, c9, c3, c4]
      refine ⟨.inr hxn, app_word (n0 := h.nx) (l := l) (acc := valF (ws.take i)) (gw ws i) (by simp +contextual (disch := first | (simp only [factsC, clsL, clsS, clsC, isPtrD]; done) | omega | (simp only [push_nx, put_nx, del_nx]; omega) | (refine Nat.le_antisymm ?_ ?_ <;> simp only [push_nx, put_nx, del_nx] <;> omega) | fail) only [wpy, factsC, wpb, cst, wpk, wpl, forall_const, implies_true, false_implies, Int.reduceLE, Int.reduceLT, Nat.reduceLeDiff, UInt8.reduceToNat, ↓reduceIte, Nat.reduceEqDiff, Nat.reduceAdd, reduceCtorEq, Int.reduceToNat, clsL, clsS, clsC]) (by simp +contextual (disch := first | (simp only [factsC, clsL, clsS, clsC, isPtrD]; done) | omega | (simp only [push_nx, put_nx, del_nx]; omega) | (refine Nat.le_antisymm ?_ ?_ <;> simp only [push_nx, put_nx, del_nx] <;> omega) | fail) only [wpy, factsC, wpb, cst, wpk, wpl, forall_const, implies_true, false_implies, Int.reduceLE, Int.reduceLT, Nat.reduceLeDiff, UInt8.reduceToNat, ↓reduceIte, Nat.reduceEqDiff, Nat.reduceAdd, reduceCtorEq, Int.reduceToNat, clsL, clsS, clsC]) (hl.ext (Ext.new _ _ _)) hacc (fun k hk => by rw [fresh_def]; exact .inl hk) (by show h.nx ≤ h'.nx + 1; omega) ?_⟩
      intro v h4 L ha4 hn4 hf4
      have hv1 := ha4.cell.1
      have hv2 := ha4.cell.2
      simp +contextual (disch := first | (simp only [factsC, clsL, clsS, clsC, isPtrD]; done) | omega | (simp only [push_nx, put_nx, del_nx]; omega) | (refine Nat.le_antisymm ?_ ?_ <;> simp only [push_nx, put_nx, del_nx] <;> omega) | fail) only [wpy, factsC, wpb, cst, wpk, wpl, forall_const, implies_true, false_implies, Int.reduceLE, Int.reduceLT, Nat.reduceLeDiff, UInt8.reduceToNat, ↓reduceIte, Nat.reduceEqDiff, Nat.reduceAdd, reduceCtorEq, Int.reduceToNat, clsL, clsS, clsC, Tryd.f89, e3, e6, e7, e8, hv1, hv2]
      exact hend _ hv v h4 ha4 hn4 fun k hk => by rw [hf4 k hk, put_ne (by omega), push_ne (by omega)]
  · have hle : i = ws.length := by omega
    subst hle
    rw [List.take_length] at hl
    simp +contextual (disch := first | (simp only [factsC, clsL, clsS, clsC, isPtrD]; done) | omega | (simp only [push_nx, put_nx, del_nx]; omega) | (refine Nat.le_antisymm ?_ ?_ <;> simp only [push_nx, put_nx, del_nx] <;> omega) | exact dok (by kernel_rfl)) only [draw_calm, draw_calmA, wpy, factsC, wpb, cst, wpk, wpl, forall_const, implies_true, false_implies, Int.reduceLE, Int.reduceLT, Nat.reduceLeDiff, UInt8.reduceToNat, ↓reduceIte, Nat.reduceEqDiff, Nat.reduceAdd, reduceCtorEq, Int.reduceToNat, clsL, clsS, clsC, Tryd.f89, e3, e6, e7, e8, hi2]
    first | exact ⟨hx, hl⟩ | trace_state
/-- the signs of parameters go -/
def sg1 (ws : List WD) (i : Nat) : List WD := if isS (gw ws i) [[45], [43]] ∧ i + 1 < ws.length ∧ (gw ws (i + 1)).kind = 8 ∧ (i = 0 ∨ isS (gw ws (i - 1)) [[40], [44], [61]]) then [] else [gw ws i]
def sigF (ws : List WD) : List WD := (List.range ws.length).flatMap (sg1 ws)
def sigN (ws : List WD) (i : Nat) : List WD := (List.range i).flatMap (sg1 ws)
omit hS in
theorem sigN_step (ws : List WD) (i : Nat) : sigN ws (i + 1) = sigN ws i ++ sg1 ws i := by
  rw [sigN, List.range_succ, List.flatMap_append]
  simp [sigN]
omit hS in
theorem sg1_len (ws : List WD) (i : Nat) : (sg1 ws i).length ≤ 1 := by unfold sg1; split <;> simp
omit hS in
theorem sigN_len (ws : List WD) : ∀ i, (sigN ws i).length ≤ i
  | 0 => Nat.le_refl _
  | i + 1 => by have h1 := sigN_len ws i; have h2 := sg1_len ws i; rw [sigN_step, List.length_append]; omega
set_option maxHeartbeats 2000000 in
theorem signed_spec (lv : V) (ws : List WD) (h : H) (ha : Wds h lv ws) (hwl : ws.length < 2 ^ 27) : Pure S.cfg 88 [lv] h fun v h' => Wx.Acc h.nx h' v (wcells (sigF ws)) 36 3 := by
  refine into Tryd.f88 _ Tryd.func88 (hS.ownD _ (by decide)) rfl rfl (by kernel_rfl) (by kernel_rfl) ?_
  have a1 := ha.len
  simp +contextual (disch := first | (simp only [factsC, clsL, clsS, clsC, isPtrD]; done) | omega | (simp only [push_nx, put_nx, del_nx]; omega) | (refine Nat.le_antisymm ?_ ?_ <;> simp only [push_nx, put_nx, del_nx] <;> omega) | fail) only [wpy, factsC, wpb, cst, wpk, wpl, forall_const, implies_true, false_implies, Int.reduceLE, Int.reduceLT, Nat.reduceLeDiff, UInt8.reduceToNat, ↓reduceIte, Nat.reduceEqDiff, Nat.reduceAdd, reduceCtorEq, Int.reduceToNat, clsL, clsS, clsC, Tryd.f88, a1]
  refine run_loop (fun k env h' => ∃ (i : Nat) (l : V), k = ws.length - i ∧ i ≤ ws.length ∧ env 0 = lv ∧ env 3 = l ∧ env 6 = lv ∧ env 7 = .int .i64 ws.length ∧ env 8 = .int .i64 i ∧ Ext h h' ∧ Wx.Acc h.nx h' l (wcells (sigN ws i)) 36 3) ws.length ⟨0, .nilslice, ?_⟩ ?_
  · simp +contextual (disch := first | (simp only [factsC, clsL, clsS, clsC, isPtrD]; done) | omega | (simp only [push_nx, put_nx, del_nx]; omega) | (refine Nat.le_antisymm ?_ ?_ <;> simp only [push_nx, put_nx, del_nx] <;> omega) | fail) only [wpy, factsC, wpb, cst, wpk, wpl, forall_const, implies_true, false_implies, Int.reduceLE, Int.reduceLT, Nat.reduceLeDiff, UInt8.reduceToNat, ↓reduceIte, Nat.reduceEqDiff, Nat.reduceAdd, reduceCtorEq, Int.reduceToNat, clsL, clsS, clsC]
    exact ⟨by simp, Ext.refl _, .inl ⟨rfl, rfl⟩⟩
  rintro k env h' ⟨i, l, rfl, hi, e0, e3, e6, e7, e8, hx, hl⟩
  have hxn := hx.1
  have hc1 := hl.cell.1
  have hc2 := hl.cell.2
  by_cases hi2 : i < ws.length
  · obtain ⟨b, o, mc, c, fl, rfl, hbn, hgb, w0, w1⟩ := (ha.ext hx).get hi2
    rw [wcell] at w1
    have hbn' : ¬ b = h'.nx := by omega
    have hacc : (sigN ws i).length < 2 ^ 28 := by have := sigN_len ws i; omega
    have hst := sigN_step ws i
    have hend : sg1 ws i = [gw ws i] → ∀ hk : H, Ext h' hk → ∀ v h4, Wx.Acc h.nx h4 v (wcells (sigN ws i ++ [gw ws i])) 36 3 → hk.nx < h4.nx → (∀ k, k < h.nx → h4.get k = hk.get k) → ∃ m', m' < ws.length - i ∧ ∃ (i' : Nat) (l : V), m' = ws.length - i' ∧ i' ≤ ws.length ∧ v = l ∧ i + 1 = i' ∧ Ext h h4 ∧ Wx.Acc h.nx h4 l (wcells (sigN ws i')) 36 3 := fun hw hk hXk v h4 ha4 hn4 hf4 => ⟨_, by omega, i + 1, v, rfl, by omega, rfl, rfl, ⟨by have := hXk.1; omega, fun k hk => by rw [hf4 k hk, hXk.2 k (by omega), hx.2 k hk]⟩, by rw [hst, hw]; exact ha4⟩
    have hskip : sg1 ws i = [] → ∀ hk : H, Ext h' hk → ∃ m', m' < ws.length - i ∧ ∃ (i' : Nat) (l' : V), m' = ws.length - i' ∧ i' ≤ ws.length ∧ l = l' ∧ i + 1 = i' ∧ Ext h hk ∧ Wx.Acc h.nx hk l' (wcells (sigN ws i')) 36 3 := fun hw hk hXk => ⟨_, by omega, i + 1, l, rfl, by omega, rfl, rfl, hx.trans hXk, by rw [hst, hw, List.append_nil]; exact hl.ext hXk⟩
    obtain ⟨b2, o2, m2, c2, fl2, hq, hm2, hb2, hg2, hw1, hw2, -⟩ := (ha.ext hx).opened (by omega)
    cases hq
    have hc : c2 = c := by rw [hgb] at hg2; cases hg2; rfl
    subst hc
    simp +contextual (disch := first | (simp only [factsC, clsL, clsS, clsC, isPtrD]; done) | omega | (simp only [push_nx, put_nx, del_nx]; omega) | (refine Nat.le_antisymm ?_ ?_ <;> simp only [push_nx, put_nx, del_nx] <;> omega) | exact dok (by kernel_rfl)) only [draw_calm, draw_calmA, wpy, factsC, wpb, cst, wpk, wpl, forall_const, implies_true, false_implies, Int.reduceLE, Int.reduceLT, Nat.reduceLeDiff, UInt8.reduceToNat, ↓reduceIte, Nat.reduceEqDiff, Nat.reduceAdd, reduceCtorEq, Int.reduceToNat, clsL, clsS, clsC, Tryd.f88, e0, e3, e6, e7, e8, hi2, hgb, hbn', w0, w1]
    refine ⟨.inr hxn, callF_pure (dsign_new hS (gw ws i) [[45], [43]] 2 _ 9 false _ rfl rfl (by decide)) ?_⟩
    rintro v h3 hx3 rfl
    have hX3 : Ext h' h3 := ((Ext.new h' _ _).push _).trans hx3
    have g3 : h3.get h'.nx = some (.cells [.int .i64 (gw ws i).kind, .str (gw ws i).text, .int .i64 (gw ws i).at_] 36 false) := by rw [hx3.2 h'.nx (by show h'.nx < h'.nx + 1 + 1; omega), push_ne (by show ¬ h'.nx = h'.nx + 1; omega), put_eq rfl]
    have gb3 : h3.get b = some (.cells c2 36 fl) := by rw [hX3.2 b hbn]; exact hgb
    by_cases c0 : isS (gw ws i) [[45], [43]]
    · by_cases k1 : i + 1 < ws.length
      · have u1 := hw1 (i + 1) k1
        have x1 := hw2 (i + 1) k1
        simp +contextual (disch := first | (simp only [factsC, clsL, clsS, clsC, isPtrD]; done) | omega | (simp only [push_nx, put_nx, del_nx]; omega) | (refine Nat.le_antisymm ?_ ?_ <;> simp only [push_nx, put_nx, del_nx] <;> omega) | exact dok (by kernel_rfl)) only [draw_calm, draw_calmA, wpy, factsC, wpb, cst, wpk, wpl, forall_const, implies_true, false_implies, Int.reduceLE, Int.reduceLT, Nat.reduceLeDiff, UInt8.reduceToNat, ↓reduceIte, Nat.reduceEqDiff, Nat.reduceAdd, reduceCtorEq, Int.reduceToNat, clsL, clsS, clsC, Tryd.f88, e0, e3, e6, e7, e8, hi2, c0, k1, gb3, u1, x1]
        refine callF_pure (param_spec hS (gw ws (i + 1)) _) ?_
        rintro v h5 hx5 rfl
        have hX5 : Ext h' h5 := hX3.trans hx5
        have g5 : h5.get h'.nx = some (.cells [.int .i64 (gw ws i).kind, .str (gw ws i).text, .int .i64 (gw ws i).at_] 36 false) := by rw [hx5.2 h'.nx (Nat.lt_of_lt_of_le (show h'.nx < h'.nx + 1 + 1 by omega) hx3.1)]; exact g3
        have gb5 : h5.get b = some (.cells c2 36 fl) := by rw [hX5.2 b hbn]; exact hgb
        by_cases c1 : (gw ws (i + 1)).kind = 8
        · by_cases c2' : i = 0
          · have hv : sg1 ws i = [] := by rw [sg1, if_pos ⟨c0, k1, c1, .inl c2'⟩]
            have c2t := eq_true c2'
            simp +contextual (disch := first | (simp only [factsC, clsL, clsS, clsC, isPtrD]; done) | omega | (simp only [push_nx, put_nx, del_nx]; omega) | (refine Nat.le_antisymm ?_ ?_ <;> simp only [push_nx, put_nx, del_nx] <;> omega) | fail) only [wpy, factsC, wpb, cst, wpk, wpl, forall_const, implies_true, false_implies, Int.reduceLE, Int.reduceLT, Nat.reduceLeDiff, UInt8.reduceToNat, ↓reduceIte, Nat.reduceEqDiff, Nat.reduceAdd, reduceCtorEq, Int.reduceToNat, clsL, clsS, clsC, Tryd.f88, e0, e3, e6, e7, e8, hi2, c0, k1, c1, c2t]
            exact hskip hv _ hX5
          · obtain ⟨j, rfl⟩ : ∃ j, i = j + 1 := ⟨i - 1, by omega⟩
            have k0 : j < ws.length := by omega
            have u0 := hw1 j k0
            have x0 := hw2 j k0
            simp +contextual (disch := first | (simp only [factsC, clsL, clsS, clsC, isPtrD]; done) | omega | (simp only [push_nx, put_nx, del_nx]; omega) | (refine Nat.le_antisymm ?_ ?_ <;> simp only [push_nx, put_nx, del_nx] <;> omega) | fail) only [wpy, factsC, wpb, cst, wpk, wpl, forall_const, implies_true, false_implies, Int.reduceLE, Int.reduceLT, Nat.reduceLeDiff, UInt8.reduceToNat, ↓reduceIte, Nat.reduceEqDiff, Nat.reduceAdd, reduceCtorEq, Int.reduceToNat, clsL, clsS, clsC, Tryd.f88, e0, e3, e6, e7, e8, hi2, c0, k1, c1, k0, gb5, u0, x0, Nat.add_sub_cancel]
            refine callF_pure (dsign_new hS (gw ws j) [[40], [44], [61]] 3 _ 9 false _ rfl rfl (by decide)) ?_
            rintro v h6 hx6 rfl
            have hX6 : Ext h' h6 := (hX5.push _).trans hx6
            have g6 : h6.get h'.nx = some (.cells [.int .i64 (gw ws (j + 1)).kind, .str (gw ws (j + 1)).text, .int .i64 (gw ws (j + 1)).at_] 36 false) := by rw [hx6.2 h'.nx (by have := hx5.1; have := hx3.1; simp only [push_nx, put_nx] at *; omega), push_ne (by have := hx5.1; have := hx3.1; simp only [push_nx, put_nx] at *; omega)]; exact g5
            by_cases c3 : isS (gw ws j) [[40], [44], [61]]
            · have hv : sg1 ws (j + 1) = [] := by rw [sg1, if_pos ⟨c0, k1, c1, .inr c3⟩]
              simp +contextual (disch := first | (simp only [factsC, clsL, clsS, clsC, isPtrD]; done) | omega | (simp only [push_nx, put_nx, del_nx]; omega) | (refine Nat.le_antisymm ?_ ?_ <;> simp only [push_nx, put_nx, del_nx] <;> omega) | fail) only [wpy, factsC, wpb, cst, wpk, wpl, forall_const, implies_true, false_implies, Int.reduceLE, Int.reduceLT, Nat.reduceLeDiff, UInt8.reduceToNat, ↓reduceIte, Nat.reduceEqDiff, Nat.reduceAdd, reduceCtorEq, Int.reduceToNat, clsL, clsS, clsC, Tryd.f88, e0, e3, e6, e7, e8, hi2, c0, k1, c1, c3]
              exact hskip hv _ hX6
            · have hv : sg1 ws (j + 1) = [gw ws (j + 1)] := by
                rw [sg1, if_neg]
                rintro ⟨q1, q2, q3, q4 | q4⟩
                · omega
                · exact c3 q4
              simp +contextual (disch := first | (simp only [factsC, clsL, clsS, clsC, isPtrD]; done) | omega | (simp only [push_nx, put_nx, del_nx]; omega) | (refine Nat.le_antisymm ?_ ?_ <;> simp only [push_nx, put_nx, del_nx] <;> omega) | fail) only [wpy, factsC, wpb, cst, wpk, wpl, forall_const, implies_true, false_implies, Int.reduceLE, Int.reduceLT, Nat.reduceLeDiff, UInt8.reduceToNat, ↓reduceIte, Nat.reduceEqDiff, Nat.reduceAdd, reduceCtorEq, Int.reduceToNat, clsL, clsS, clsC, Tryd.f88, e0, e3, e6, e7, e8, hi2, c0, k1, c1, c3, g6]
              refine app_word (n0 := h.nx) (l := l) (acc := sigN ws (j + 1)) (gw ws (j + 1)) (by simp +contextual (disch := first | (simp only [factsC, clsL, clsS, clsC, isPtrD]; done) | omega | (simp only [push_nx, put_nx, del_nx]; omega) | (refine Nat.le_antisymm ?_ ?_ <;> simp only [push_nx, put_nx, del_nx] <;> omega) | fail) only [wpy, factsC, wpb, cst, wpk, wpl, forall_const, implies_true, false_implies, Int.reduceLE, Int.reduceLT, Nat.reduceLeDiff, UInt8.reduceToNat, ↓reduceIte, Nat.reduceEqDiff, Nat.reduceAdd, reduceCtorEq, Int.reduceToNat, clsL, clsS, clsC]) (by simp +contextual (disch := first | (simp only [factsC, clsL, clsS, clsC, isPtrD]; done) | omega | (simp only [push_nx, put_nx, del_nx]; omega) | (refine Nat.le_antisymm ?_ ?_ <;> simp only [push_nx, put_nx, del_nx] <;> omega) | fail) only [wpy, factsC, wpb, cst, wpk, wpl, forall_const, implies_true, false_implies, Int.reduceLE, Int.reduceLT, Nat.reduceLeDiff, UInt8.reduceToNat, ↓reduceIte, Nat.reduceEqDiff, Nat.reduceAdd, reduceCtorEq, Int.reduceToNat, clsL, clsS, clsC]) (hl.ext hX6) hacc (fun k hk => by rw [fresh_def]; exact .inl hk) (Nat.le_trans hxn hX6.1) ?_
              intro v h4 L ha4 hn4 hf4
              have hv1 := ha4.cell.1
              have hv2 := ha4.cell.2
              simp +contextual (disch := first | (simp only [factsC, clsL, clsS, clsC, isPtrD]; done) | omega | (simp only [push_nx, put_nx, del_nx]; omega) | (refine Nat.le_antisymm ?_ ?_ <;> simp only [push_nx, put_nx, del_nx] <;> omega) | fail) only [wpy, factsC, wpb, cst, wpk, wpl, forall_const, implies_true, false_implies, Int.reduceLE, Int.reduceLT, Nat.reduceLeDiff, UInt8.reduceToNat, ↓reduceIte, Nat.reduceEqDiff, Nat.reduceAdd, reduceCtorEq, Int.reduceToNat, clsL, clsS, clsC, Tryd.f88, e0, e3, e6, e7, e8, hi2, hv1, hv2]
              exact hend hv _ hX6 v h4 ha4 hn4 hf4
        · have hv : sg1 ws i = [gw ws i] := by
            rw [sg1, if_neg]
            rintro ⟨q1, q2, q3, q4⟩
            exact c1 q3
          simp +contextual (disch := first | (simp only [factsC, clsL, clsS, clsC, isPtrD]; done) | omega | (simp only [push_nx, put_nx, del_nx]; omega) | (refine Nat.le_antisymm ?_ ?_ <;> simp only [push_nx, put_nx, del_nx] <;> omega) | fail) only [wpy, factsC, wpb, cst, wpk, wpl, forall_const, implies_true, false_implies, Int.reduceLE, Int.reduceLT, Nat.reduceLeDiff, UInt8.reduceToNat, ↓reduceIte, Nat.reduceEqDiff, Nat.reduceAdd, reduceCtorEq, Int.reduceToNat, clsL, clsS, clsC, Tryd.f88, e0, e3, e6, e7, e8, hi2, c0, k1, c1, g5]
          refine app_word (n0 := h.nx) (l := l) (acc := sigN ws i) (gw ws i) (by simp +contextual (disch := first | (simp only [factsC, clsL, clsS, clsC, isPtrD]; done) | omega | (simp only [push_nx, put_nx, del_nx]; omega) | (refine Nat.le_antisymm ?_ ?_ <;> simp only [push_nx, put_nx, del_nx] <;> omega) | fail) only [wpy, factsC, wpb, cst, wpk, wpl, forall_const, implies_true, false_implies, Int.reduceLE, Int.reduceLT, Nat.reduceLeDiff, UInt8.reduceToNat, ↓reduceIte, Nat.reduceEqDiff, Nat.reduceAdd, reduceCtorEq, Int.reduceToNat, clsL, clsS, clsC]) (by simp +contextual (disch := first | (simp only [factsC, clsL, clsS, clsC, isPtrD]; done) | omega | (simp only [push_nx, put_nx, del_nx]; omega) | (refine Nat.le_antisymm ?_ ?_ <;> simp only [push_nx, put_nx, del_nx] <;> omega) | fail) only [wpy, factsC, wpb, cst, wpk, wpl, forall_const, implies_true, false_implies, Int.reduceLE, Int.reduceLT, Nat.reduceLeDiff, UInt8.reduceToNat, ↓reduceIte, Nat.reduceEqDiff, Nat.reduceAdd, reduceCtorEq, Int.reduceToNat, clsL, clsS, clsC]) (hl.ext hX5) hacc (fun k hk => by rw [fresh_def]; exact .inl hk) (Nat.le_trans hxn hX5.1) ?_
          intro v h4 L ha4 hn4 hf4
          have hv1 := ha4.cell.1
          have hv2 := ha4.cell.2
          simp +contextual (disch := first | (simp only [factsC, clsL, clsS, clsC, isPtrD]; done) | omega | (simp only [push_nx, put_nx, del_nx]; omega) | (refine Nat.le_antisymm ?_ ?_ <;> simp only [push_nx, put_nx, del_nx] <;> omega) | fail) only [wpy, factsC, wpb, cst, wpk, wpl, forall_const, implies_true, false_implies, Int.reduceLE, Int.reduceLT, Nat.reduceLeDiff, UInt8.reduceToNat, ↓reduceIte, Nat.reduceEqDiff, Nat.reduceAdd, reduceCtorEq, Int.reduceToNat, clsL, clsS, clsC, Tryd.f88, e0, e3, e6, e7, e8, hi2, hv1, hv2]
          exact hend hv _ hX5 v h4 ha4 hn4 hf4
      · have hv : sg1 ws i = [gw ws i] := by
          rw [sg1, if_neg]
          rintro ⟨q1, q2, q3, q4⟩
          exact k1 q2
        simp +contextual (disch := first | (simp only [factsC, clsL, clsS, clsC, isPtrD]; done) | omega | (simp only [push_nx, put_nx, del_nx]; omega) | (refine Nat.le_antisymm ?_ ?_ <;> simp only [push_nx, put_nx, del_nx] <;> omega) | fail) only [wpy, factsC, wpb, cst, wpk, wpl, forall_const, implies_true, false_implies, Int.reduceLE, Int.reduceLT, Nat.reduceLeDiff, UInt8.reduceToNat, ↓reduceIte, Nat.reduceEqDiff, Nat.reduceAdd, reduceCtorEq, Int.reduceToNat, clsL, clsS, clsC, Tryd.f88, e0, e3, e6, e7, e8, hi2, c0, k1, g3]
        refine app_word (n0 := h.nx) (l := l) (acc := sigN ws i) (gw ws i) (by simp +contextual (disch := first | (simp only [factsC, clsL, clsS, clsC, isPtrD]; done) | omega | (simp only [push_nx, put_nx, del_nx]; omega) | (refine Nat.le_antisymm ?_ ?_ <;> simp only [push_nx, put_nx, del_nx] <;> omega) | fail) only [wpy, factsC, wpb, cst, wpk, wpl, forall_const, implies_true, false_implies, Int.reduceLE, Int.reduceLT, Nat.reduceLeDiff, UInt8.reduceToNat, ↓reduceIte, Nat.reduceEqDiff, Nat.reduceAdd, reduceCtorEq, Int.reduceToNat, clsL, clsS, clsC]) (by simp +contextual (disch := first | (simp only [factsC, clsL, clsS, clsC, isPtrD]; done) | omega | (simp only [push_nx, put_nx, del_nx]; omega) | (refine Nat.le_antisymm ?_ ?_ <;> simp only [push_nx, put_nx, del_nx] <;> omega) | fail) only [wpy, factsC, wpb, cst, wpk, wpl, forall_const, implies_true, false_implies, Int.reduceLE, Int.reduceLT, Nat.reduceLeDiff, UInt8.reduceToNat, ↓reduceIte, Nat.reduceEqDiff, Nat.reduceAdd, reduceCtorEq, Int.reduceToNat, clsL, clsS, clsC]) (hl.ext hX3) hacc (fun k hk => by rw [fresh_def]; exact .inl hk) (Nat.le_trans hxn hX3.1) ?_
        intro v h4 L ha4 hn4 hf4
        have hv1 := ha4.cell.1
        have hv2 := ha4.cell.2
        simp +contextual (disch := first | (simp only [factsC, clsL, clsS, clsC, isPtrD]; done) | omega | (simp only [push_nx, put_nx, del_nx]; omega) | (refine Nat.le_antisymm ?_ ?_ <;> simp only [push_nx, put_nx, del_nx] <;> omega) | fail) only [wpy, factsC, wpb, cst, wpk, wpl, forall_const, implies_true, false_implies, Int.reduceLE, Int.reduceLT, Nat.reduceLeDiff, UInt8.reduceToNat, ↓reduceIte, Nat.reduceEqDiff, Nat.reduceAdd, reduceCtorEq, Int.reduceToNat, clsL, clsS, clsC, Tryd.f88, e0, e3, e6, e7, e8, hi2, hv1, hv2]
        exact hend hv _ hX3 v h4 ha4 hn4 hf4
    · have hv : sg1 ws i = [gw ws i] := by
        rw [sg1, if_neg]
        rintro ⟨q1, q2, q3, q4⟩
        exact c0 q1
      simp +contextual (disch := first | (simp only [factsC, clsL, clsS, clsC, isPtrD]; done) | omega | (simp only [push_nx, put_nx, del_nx]; omega) | (refine Nat.le_antisymm ?_ ?_ <;> simp only [push_nx, put_nx, del_nx] <;> omega) | fail) only [wpy, factsC, wpb, cst, wpk, wpl, forall_const, implies_true, false_implies, Int.reduceLE, Int.reduceLT, Nat.reduceLeDiff, UInt8.reduceToNat, ↓reduceIte, Nat.reduceEqDiff, Nat.reduceAdd, reduceCtorEq, Int.reduceToNat, clsL, clsS, clsC, Tryd.f88, e0, e3, e6, e7, e8, hi2, c0, g3]
      refine app_word (n0 := h.nx) (l := l) (acc := sigN ws i) (gw ws i) (by simp +contextual (disch := first | (simp only [factsC, clsL, clsS, clsC, isPtrD]; done) | omega | (simp only [push_nx, put_nx, del_nx]; omega) | (refine Nat.le_antisymm ?_ ?_ <;> simp only [push_nx, put_nx, del_nx] <;> omega) | fail) only [wpy, factsC, wpb, cst, wpk, wpl, forall_const, implies_true, false_implies, Int.reduceLE, Int.reduceLT, Nat.reduceLeDiff, UInt8.reduceToNat, ↓reduceIte, Nat.reduceEqDiff, Nat.reduceAdd, reduceCtorEq, Int.reduceToNat, clsL, clsS, clsC]) (by simp +contextual (disch := first | (simp only [factsC, clsL, clsS, clsC, isPtrD]; done) | omega | (simp only [push_nx, put_nx, del_nx]; omega) | (refine Nat.le_antisymm ?_ ?_ <;> simp only [push_nx, put_nx, del_nx] <;> omega) | fail) only [wpy, factsC, wpb, cst, wpk, wpl, forall_const, implies_true, false_implies, Int.reduceLE, Int.reduceLT, Nat.reduceLeDiff, UInt8.reduceToNat, ↓reduceIte, Nat.reduceEqDiff, Nat.reduceAdd, reduceCtorEq, Int.reduceToNat, clsL, clsS, clsC]) (hl.ext hX3) hacc (fun k hk => by rw [fresh_def]; exact .inl hk) (Nat.le_trans hxn hX3.1) ?_
      intro v h4 L ha4 hn4 hf4
      have hv1 := ha4.cell.1
      have hv2 := ha4.cell.2
      simp +contextual (disch := first | (simp only [factsC, clsL, clsS, clsC, isPtrD]; done) | omega | (simp only [push_nx, put_nx, del_nx]; omega) | (refine Nat.le_antisymm ?_ ?_ <;> simp only [push_nx, put_nx, del_nx] <;> omega) | fail) only [wpy, factsC, wpb, cst, wpk, wpl, forall_const, implies_true, false_implies, Int.reduceLE, Int.reduceLT, Nat.reduceLeDiff, UInt8.reduceToNat, ↓reduceIte, Nat.reduceEqDiff, Nat.reduceAdd, reduceCtorEq, Int.reduceToNat, clsL, clsS, clsC, Tryd.f88, e0, e3, e6, e7, e8, hi2, hv1, hv2]
      exact hend hv _ hX3 v h4 ha4 hn4 hf4
  · have hle : i = ws.length := by omega
    subst hle
    simp +contextual (disch := first | (simp only [factsC, clsL, clsS, clsC, isPtrD]; done) | omega | (simp only [push_nx, put_nx, del_nx]; omega) | (refine Nat.le_antisymm ?_ ?_ <;> simp only [push_nx, put_nx, del_nx] <;> omega) | exact dok (by kernel_rfl)) only [draw_calm, draw_calmA, wpy, factsC, wpb, cst, wpk, wpl, forall_const, implies_true, false_implies, Int.reduceLE, Int.reduceLT, Nat.reduceLeDiff, UInt8.reduceToNat, ↓reduceIte, Nat.reduceEqDiff, Nat.reduceAdd, reduceCtorEq, Int.reduceToNat, clsL, clsS, clsC, Tryd.f88, e0, e3, e6, e7, e8, hi2]
    first | exact ⟨hx, hl⟩ | trace_state
end
end Go.Proofs.YtkibhdbmamfjcaaDoor

/-
  digest: rows and lists of parameters, the words that are left.
-/
set_option linter.unusedSimpArgs false
set_option linter.unusedVariables false
set_option linter.defProp false
set_option maxRecDepth 10000
namespace Go.Proofs.YtkibhdbmamfjcaaDoor
open Go.Proofs Go.Lx Go.Wx Go.IntWalk
noncomputable section

/-- is a parameter in parentheses next? -/
def aloneG : List WD → Prop
  | a :: b :: c :: _ => isS a [[40]] ∧ b.kind = 8 ∧ isS c [[41]]
  | _ => False
noncomputable instance (l : List WD) : Decidable (aloneG l) := Classical.propDecidable _
theorem aloneG_at {ws : List WD} {i : Nat} (h : i + 3 ≤ ws.length) : aloneG (ws.drop i) = (isS (gw ws i) [[40]] ∧ (gw ws (i + 1)).kind = 8 ∧ isS (gw ws (i + 2)) [[41]]) := by
  rw [drop_gw (show i < ws.length by omega), drop_gw (show i + 1 < ws.length by omega), drop_gw (show i + 1 + 1 < ws.length by omega)]
  first | done | rfl
theorem aloneG_no {ws : List WD} {i : Nat} (h : ¬ i + 3 ≤ ws.length) : aloneG (ws.drop i) = False := by
  have hl : (ws.drop i).length < 3 := by rw [List.length_drop]; omega
  generalize ws.drop i = l at hl
  match l, hl with
  | [], _ => rfl
  | [a], _ => rfl
  | [a, b], _ => rfl
  | a :: b :: c :: r, q => exact absurd q (by simp)
/-- how many words a row of parameters has -/
def rowT : List WD → Nat → Nat
  | w :: s :: r, k => if w.kind = 8 then (if isS s [[41]] then k + 2 else if isS s [[44]] then rowT r (k + 2) else 0) else 0
  | _, _ => 0
def rowG : List WD → Nat
  | [] => 0
  | w :: r => if isS w [[40]] then rowT r 1 else 0

variable {S : Set0} (hS : StdD S)
include hS
set_option maxHeartbeats 1000000 in
theorem alone_spec (lv : V) (ws : List WD) (i : Nat) (h : H) (ha : Wds h lv ws) (hwl : ws.length < 2 ^ 27) (hi : i < 2 ^ 28) : Pure S.cfg 125 [lv, .int .i64 i] h fun v _ => v = bo (aloneG (ws.drop i)) := by
  refine into Tryd.f125 _ Tryd.func125 (hS.ownD _ (by decide)) rfl rfl (by kernel_rfl) (by kernel_rfl) ?_
  have a1 := ha.len
  by_cases h3 : i + 3 ≤ ws.length
  · rw [aloneG_at h3]
    obtain ⟨b, o, m, c, fl, rfl, hm, hb, hg, hc1, hc2, -⟩ := ha.opened (by omega)
    have u0 := hc1 i (by omega)
    have u1 := hc1 (i + 1) (by omega)
    have u2 := hc1 (i + 2) (by omega)
    have w0 := hc2 i (by omega)
    have w1 := hc2 (i + 1) (by omega)
    have w2 := hc2 (i + 2) (by omega)
    have k0 : i < ws.length := by omega
    have k1 : i + 1 < ws.length := by omega
    have k2 : i + 2 < ws.length := by omega
    simp +contextual (disch := first | (simp only [factsC, clsL, clsS, clsC, isPtrD]; done) | omega | (simp only [push_nx, put_nx, del_nx]; omega) | (refine Nat.le_antisymm ?_ ?_ <;> simp only [push_nx, put_nx, del_nx] <;> omega) | fail) only [wpy, factsC, wpb, cst, wpk, wpl, forall_const, implies_true, false_implies, Int.reduceLE, Int.reduceLT, Nat.reduceLeDiff, UInt8.reduceToNat, ↓reduceIte, Nat.reduceEqDiff, Nat.reduceAdd, reduceCtorEq, Int.reduceToNat, clsL, clsS, clsC, Tryd.f125, a1, h3, hg, u0, u1, u2, w0, w1, w2, k0, k1, k2]
    refine callF_pure (dsign_new hS (gw ws i) [[40]] 1 _ 9 false _ rfl rfl (by decide)) ?_
    rintro v h1 hx1 rfl
    have hX1 : Ext h h1 := ((Ext.refl h).push _).trans hx1
    have hg1 : h1.get b = some (.cells c 36 fl) := by rw [hX1.2 b hb]; exact hg
    by_cases c0 : isS (gw ws i) [[40]]
    · simp +contextual (disch := first | (simp only [factsC, clsL, clsS, clsC, isPtrD]; done) | omega | (simp only [push_nx, put_nx, del_nx]; omega) | (refine Nat.le_antisymm ?_ ?_ <;> simp only [push_nx, put_nx, del_nx] <;> omega) | fail) only [wpy, factsC, wpb, cst, wpk, wpl, forall_const, implies_true, false_implies, Int.reduceLE, Int.reduceLT, Nat.reduceLeDiff, UInt8.reduceToNat, ↓reduceIte, Nat.reduceEqDiff, Nat.reduceAdd, reduceCtorEq, Int.reduceToNat, clsL, clsS, clsC, Tryd.f125, a1, h3, hg1, u0, u1, u2, w0, w1, w2, k0, k1, k2, c0]
      refine callF_pure (param_spec hS (gw ws (i + 1)) _) ?_
      rintro v h2 hx2 rfl
      have hX2 : Ext h h2 := hX1.trans hx2
      have hg2 : h2.get b = some (.cells c 36 fl) := by rw [hX2.2 b hb]; exact hg
      by_cases c1 : (gw ws (i + 1)).kind = 8
      · simp +contextual (disch := first | (simp only [factsC, clsL, clsS, clsC, isPtrD]; done) | omega | (simp only [push_nx, put_nx, del_nx]; omega) | (refine Nat.le_antisymm ?_ ?_ <;> simp only [push_nx, put_nx, del_nx] <;> omega) | fail) only [wpy, factsC, wpb, cst, wpk, wpl, forall_const, implies_true, false_implies, Int.reduceLE, Int.reduceLT, Nat.reduceLeDiff, UInt8.reduceToNat, ↓reduceIte, Nat.reduceEqDiff, Nat.reduceAdd, reduceCtorEq, Int.reduceToNat, clsL, clsS, clsC, Tryd.f125, a1, h3, hg2, u0, u1, u2, w0, w1, w2, k0, k1, k2, c0, c1]
        refine callF_pure (dsign_new hS (gw ws (i + 2)) [[41]] 1 _ 9 false _ rfl rfl (by decide)) ?_
        rintro v h3 hx3 rfl
        have hX3 : Ext h h3 := (hX2.push _).trans hx3
        simp +contextual (disch := first | (simp only [factsC, clsL, clsS, clsC, isPtrD]; done) | omega | (simp only [push_nx, put_nx, del_nx]; omega) | (refine Nat.le_antisymm ?_ ?_ <;> simp only [push_nx, put_nx, del_nx] <;> omega) | fail) only [wpy, factsC, wpb, cst, wpk, wpl, forall_const, implies_true, false_implies, Int.reduceLE, Int.reduceLT, Nat.reduceLeDiff, UInt8.reduceToNat, ↓reduceIte, Nat.reduceEqDiff, Nat.reduceAdd, reduceCtorEq, Int.reduceToNat, clsL, clsS, clsC, Tryd.f125, c0, c1]
        first | exact hX3 | exact ⟨hX3, rfl⟩ | trace_state
      · simp +contextual (disch := first | (simp only [factsC, clsL, clsS, clsC, isPtrD]; done) | omega | (simp only [push_nx, put_nx, del_nx]; omega) | (refine Nat.le_antisymm ?_ ?_ <;> simp only [push_nx, put_nx, del_nx] <;> omega) | fail) only [wpy, factsC, wpb, cst, wpk, wpl, forall_const, implies_true, false_implies, Int.reduceLE, Int.reduceLT, Nat.reduceLeDiff, UInt8.reduceToNat, ↓reduceIte, Nat.reduceEqDiff, Nat.reduceAdd, reduceCtorEq, Int.reduceToNat, clsL, clsS, clsC, Tryd.f125, a1, h3, hg2, u0, u1, u2, w0, w1, w2, k0, k1, k2, c0, c1]
        first | exact hX2 | exact ⟨hX2, rfl⟩ | trace_state
    · simp +contextual (disch := first | (simp only [factsC, clsL, clsS, clsC, isPtrD]; done) | omega | (simp only [push_nx, put_nx, del_nx]; omega) | (refine Nat.le_antisymm ?_ ?_ <;> simp only [push_nx, put_nx, del_nx] <;> omega) | fail) only [wpy, factsC, wpb, cst, wpk, wpl, forall_const, implies_true, false_implies, Int.reduceLE, Int.reduceLT, Nat.reduceLeDiff, UInt8.reduceToNat, ↓reduceIte, Nat.reduceEqDiff, Nat.reduceAdd, reduceCtorEq, Int.reduceToNat, clsL, clsS, clsC, Tryd.f125, a1, h3, hg1, u0, u1, u2, w0, w1, w2, k0, k1, k2, c0]
      first | exact hX1 | exact ⟨hX1, rfl⟩ | trace_state
  · rw [aloneG_no h3]
    simp +contextual (disch := first | (simp only [factsC, clsL, clsS, clsC, isPtrD]; done) | omega | (simp only [push_nx, put_nx, del_nx]; omega) | (refine Nat.le_antisymm ?_ ?_ <;> simp only [push_nx, put_nx, del_nx] <;> omega) | fail) only [wpy, factsC, wpb, cst, wpk, wpl, forall_const, implies_true, false_implies, Int.reduceLE, Int.reduceLT, Nat.reduceLeDiff, UInt8.reduceToNat, ↓reduceIte, Nat.reduceEqDiff, Nat.reduceAdd, reduceCtorEq, Int.reduceToNat, clsL, clsS, clsC, Tryd.f125, a1, h3]
    first | exact Ext.refl _ | exact ⟨Ext.refl _, rfl⟩ | trace_state
set_option maxHeartbeats 2000000 in
theorem row_spec (lv : V) (ws : List WD) (a : Nat) (h : H) (ha : Wds h lv ws) (hwl : ws.length < 2 ^ 27) (hi : a < 2 ^ 28) : Pure S.cfg 126 [lv, .int .i64 a] h fun v _ => v = .int .i64 (rowG (ws.drop a)) := by
  refine into Tryd.f126 _ Tryd.func126 (hS.ownD _ (by decide)) rfl rfl (by kernel_rfl) (by kernel_rfl) ?_
  have a1 := ha.len
  by_cases h3 : a < ws.length
  · have h3' : ¬ ws.length ≤ a := by omega
    obtain ⟨b, o, m, c, fl, rfl, hm, hb, hg, hc1, hc2, -⟩ := ha.opened (by omega)
    have u0 := hc1 a h3
    have w0 := hc2 a h3
    have hd := drop_gw h3
    simp +contextual (disch := first | (simp only [factsC, clsL, clsS, clsC, isPtrD]; done) | omega | (simp only [push_nx, put_nx, del_nx]; omega) | (refine Nat.le_antisymm ?_ ?_ <;> simp only [push_nx, put_nx, del_nx] <;> omega) | fail) only [wpy, factsC, wpb, cst, wpk, wpl, forall_const, implies_true, false_implies, Int.reduceLE, Int.reduceLT, Nat.reduceLeDiff, UInt8.reduceToNat, ↓reduceIte, Nat.reduceEqDiff, Nat.reduceAdd, reduceCtorEq, Int.reduceToNat, clsL, clsS, clsC, Tryd.f126, a1, h3, h3', hg, u0, w0]
    refine callF_pure (dsign_new hS (gw ws a) [[40]] 1 _ 9 false _ rfl rfl (by decide)) ?_
    rintro v h1 hx1 rfl
    have hX1 : Ext h h1 := ((Ext.refl h).push _).trans hx1
    by_cases c0 : isS (gw ws a) [[40]]
    · have hrow : rowG (ws.drop a) = rowT (ws.drop (a + 1)) 1 := by rw [hd, rowG, if_pos c0]
      simp +contextual (disch := first | (simp only [factsC, clsL, clsS, clsC, isPtrD]; done) | omega | (simp only [push_nx, put_nx, del_nx]; omega) | (refine Nat.le_antisymm ?_ ?_ <;> simp only [push_nx, put_nx, del_nx] <;> omega) | fail) only [wpy, factsC, wpb, cst, wpk, wpl, forall_const, implies_true, false_implies, Int.reduceLE, Int.reduceLT, Nat.reduceLeDiff, UInt8.reduceToNat, ↓reduceIte, Nat.reduceEqDiff, Nat.reduceAdd, reduceCtorEq, Int.reduceToNat, clsL, clsS, clsC, Tryd.f126, a1, h3, h3', c0]
      refine run_loop (fun k env h' => ∃ (i : Nat), k = ws.length + 2 - i ∧ a < i ∧ i < ws.length + 2 ∧ env 0 = .slice b o ws.length m ∧ env 1 = .int .i64 a ∧ env 5 = .int .i64 i ∧ Ext h h' ∧ rowG (ws.drop a) = rowT (ws.drop i) (i - a)) (ws.length + 2 - (a + 1)) ⟨a + 1, ?_⟩ ?_
      · simp +contextual (disch := first | (simp only [factsC, clsL, clsS, clsC, isPtrD]; done) | omega | (simp only [push_nx, put_nx, del_nx]; omega) | (refine Nat.le_antisymm ?_ ?_ <;> simp only [push_nx, put_nx, del_nx] <;> omega) | fail) only [wpy, factsC, wpb, cst, wpk, wpl, forall_const, implies_true, false_implies, Int.reduceLE, Int.reduceLT, Nat.reduceLeDiff, UInt8.reduceToNat, ↓reduceIte, Nat.reduceEqDiff, Nat.reduceAdd, reduceCtorEq, Int.reduceToNat, clsL, clsS, clsC]
        exact ⟨by omega, by omega, hX1, by rw [hrow, Nat.add_sub_cancel_left]⟩
      rintro k env h' ⟨i, rfl, hai, hil, e0, e1, e5, hx, hr⟩
      have hgh : h'.get b = some (.cells c 36 fl) := by rw [hx.2 b hb]; exact hg
      by_cases k0 : i < ws.length
      · have u0 := hc1 i k0
        have w0 := hc2 i k0
        have hd0 := drop_gw k0
        simp +contextual (disch := first | (simp only [factsC, clsL, clsS, clsC, isPtrD]; done) | omega | (simp only [push_nx, put_nx, del_nx]; omega) | (refine Nat.le_antisymm ?_ ?_ <;> simp only [push_nx, put_nx, del_nx] <;> omega) | fail) only [wpy, factsC, wpb, cst, wpk, wpl, forall_const, implies_true, false_implies, Int.reduceLE, Int.reduceLT, Nat.reduceLeDiff, UInt8.reduceToNat, ↓reduceIte, Nat.reduceEqDiff, Nat.reduceAdd, reduceCtorEq, Int.reduceToNat, clsL, clsS, clsC, Tryd.f126, e0, e1, e5, k0, hgh, u0, w0]
        refine callF_pure (param_spec hS (gw ws i) _) ?_
        rintro v h2 hx2 rfl
        have hX2 : Ext h h2 := hx.trans hx2
        have hg2 : h2.get b = some (.cells c 36 fl) := by rw [hX2.2 b hb]; exact hg
        by_cases c1 : (gw ws i).kind = 8
        · by_cases k1 : i + 1 < ws.length
          · have u1 := hc1 (i + 1) k1
            have w1 := hc2 (i + 1) k1
            have hd1 := drop_gw k1
            rw [hd0, hd1, rowT, if_pos c1] at hr
            simp +contextual (disch := first | (simp only [factsC, clsL, clsS, clsC, isPtrD]; done) | omega | (simp only [push_nx, put_nx, del_nx]; omega) | (refine Nat.le_antisymm ?_ ?_ <;> simp only [push_nx, put_nx, del_nx] <;> omega) | fail) only [wpy, factsC, wpb, cst, wpk, wpl, forall_const, implies_true, false_implies, Int.reduceLE, Int.reduceLT, Nat.reduceLeDiff, UInt8.reduceToNat, ↓reduceIte, Nat.reduceEqDiff, Nat.reduceAdd, reduceCtorEq, Int.reduceToNat, clsL, clsS, clsC, Tryd.f126, e0, e1, e5, k0, hg2, c1, k1, u1, w1]
            refine callF_pure (dsign_new hS (gw ws (i + 1)) [[41]] 1 _ 9 false _ rfl rfl (by decide)) ?_
            rintro v h3 hx3 rfl
            have hX3 : Ext h h3 := (hX2.push _).trans hx3
            have hg3 : h3.get b = some (.cells c 36 fl) := by rw [hX3.2 b hb]; exact hg
            by_cases c2 : isS (gw ws (i + 1)) [[41]]
            · rw [if_pos c2] at hr
              simp +contextual (disch := first | (simp only [factsC, clsL, clsS, clsC, isPtrD]; done) | omega | (simp only [push_nx, put_nx, del_nx]; omega) | (refine Nat.le_antisymm ?_ ?_ <;> simp only [push_nx, put_nx, del_nx] <;> omega) | fail) only [wpy, factsC, wpb, cst, wpk, wpl, forall_const, implies_true, false_implies, Int.reduceLE, Int.reduceLT, Nat.reduceLeDiff, UInt8.reduceToNat, ↓reduceIte, Nat.reduceEqDiff, Nat.reduceAdd, reduceCtorEq, Int.reduceToNat, clsL, clsS, clsC, Tryd.f126, e0, e1, e5, k0, c1, k1, c2]
              exact ⟨hX3, by rw [hr]; omega⟩
            · rw [if_neg c2] at hr
              have k2 : ¬ i + 1 = ws.length := by omega
              simp +contextual (disch := first | (simp only [factsC, clsL, clsS, clsC, isPtrD]; done) | omega | (simp only [push_nx, put_nx, del_nx]; omega) | (refine Nat.le_antisymm ?_ ?_ <;> simp only [push_nx, put_nx, del_nx] <;> omega) | fail) only [wpy, factsC, wpb, cst, wpk, wpl, forall_const, implies_true, false_implies, Int.reduceLE, Int.reduceLT, Nat.reduceLeDiff, UInt8.reduceToNat, ↓reduceIte, Nat.reduceEqDiff, Nat.reduceAdd, reduceCtorEq, Int.reduceToNat, clsL, clsS, clsC, Tryd.f126, e0, e1, e5, k0, c1, k1, c2, k2, hg3, u1, w1]
              refine callF_pure (dsign_new hS (gw ws (i + 1)) [[44]] 1 _ 9 false _ rfl rfl (by decide)) ?_
              rintro v h4 hx4 rfl
              have hX4 : Ext h h4 := (hX3.push _).trans hx4
              by_cases c3 : isS (gw ws (i + 1)) [[44]]
              · rw [if_pos c3] at hr
                simp +contextual (disch := first | (simp only [factsC, clsL, clsS, clsC, isPtrD]; done) | omega | (simp only [push_nx, put_nx, del_nx]; omega) | (refine Nat.le_antisymm ?_ ?_ <;> simp only [push_nx, put_nx, del_nx] <;> omega) | fail) only [wpy, factsC, wpb, cst, wpk, wpl, forall_const, implies_true, false_implies, Int.reduceLE, Int.reduceLT, Nat.reduceLeDiff, UInt8.reduceToNat, ↓reduceIte, Nat.reduceEqDiff, Nat.reduceAdd, reduceCtorEq, Int.reduceToNat, clsL, clsS, clsC, Tryd.f126, e0, e1, e5, k0, c1, k1, c2, c3, k2]
                exact ⟨_, by omega, i + 1 + 1, rfl, by omega, by omega, rfl, hX4, by rw [hr, show i + 1 + 1 - a = i - a + 2 by omega]⟩
              · rw [if_neg c3] at hr
                simp +contextual (disch := first | (simp only [factsC, clsL, clsS, clsC, isPtrD]; done) | omega | (simp only [push_nx, put_nx, del_nx]; omega) | (refine Nat.le_antisymm ?_ ?_ <;> simp only [push_nx, put_nx, del_nx] <;> omega) | fail) only [wpy, factsC, wpb, cst, wpk, wpl, forall_const, implies_true, false_implies, Int.reduceLE, Int.reduceLT, Nat.reduceLeDiff, UInt8.reduceToNat, ↓reduceIte, Nat.reduceEqDiff, Nat.reduceAdd, reduceCtorEq, Int.reduceToNat, clsL, clsS, clsC, Tryd.f126, e0, e1, e5, k0, c1, k1, c2, c3, k2]
                exact ⟨hX4, hr.symm⟩
          · have hlen : i + 1 = ws.length := by omega
            have hdn : ws.drop (i + 1) = [] := List.drop_eq_nil_of_le (by omega)
            rw [hd0, hdn] at hr
            have hlt := eq_true hlen
            simp +contextual (disch := first | (simp only [factsC, clsL, clsS, clsC, isPtrD]; done) | omega | (simp only [push_nx, put_nx, del_nx]; omega) | (refine Nat.le_antisymm ?_ ?_ <;> simp only [push_nx, put_nx, del_nx] <;> omega) | fail) only [wpy, factsC, wpb, cst, wpk, wpl, forall_const, implies_true, false_implies, Int.reduceLE, Int.reduceLT, Nat.reduceLeDiff, UInt8.reduceToNat, ↓reduceIte, Nat.reduceEqDiff, Nat.reduceAdd, reduceCtorEq, Int.reduceToNat, clsL, clsS, clsC, Tryd.f126, e0, e1, e5, k0, hg2, c1, k1, hlt]
            exact ⟨hX2, hr.symm⟩
        · have hr0 : rowG (ws.drop a) = 0 := by
            rw [hr, hd0]
            cases hdr : ws.drop (i + 1) with
            | nil => rfl
            | cons s r => rw [rowT, if_neg c1]
          simp +contextual (disch := first | (simp only [factsC, clsL, clsS, clsC, isPtrD]; done) | omega | (simp only [push_nx, put_nx, del_nx]; omega) | (refine Nat.le_antisymm ?_ ?_ <;> simp only [push_nx, put_nx, del_nx] <;> omega) | fail) only [wpy, factsC, wpb, cst, wpk, wpl, forall_const, implies_true, false_implies, Int.reduceLE, Int.reduceLT, Nat.reduceLeDiff, UInt8.reduceToNat, ↓reduceIte, Nat.reduceEqDiff, Nat.reduceAdd, reduceCtorEq, Int.reduceToNat, clsL, clsS, clsC, Tryd.f126, e0, e1, e5, k0, c1]
          exact ⟨hX2, hr0.symm⟩
      · have hr0 : rowG (ws.drop a) = 0 := by rw [hr, List.drop_eq_nil_of_le (by omega)]; rfl
        simp +contextual (disch := first | (simp only [factsC, clsL, clsS, clsC, isPtrD]; done) | omega | (simp only [push_nx, put_nx, del_nx]; omega) | (refine Nat.le_antisymm ?_ ?_ <;> simp only [push_nx, put_nx, del_nx] <;> omega) | fail) only [wpy, factsC, wpb, cst, wpk, wpl, forall_const, implies_true, false_implies, Int.reduceLE, Int.reduceLT, Nat.reduceLeDiff, UInt8.reduceToNat, ↓reduceIte, Nat.reduceEqDiff, Nat.reduceAdd, reduceCtorEq, Int.reduceToNat, clsL, clsS, clsC, Tryd.f126, e0, e1, e5, k0]
        exact ⟨hx, hr0.symm⟩
    · have hr0 : rowG (ws.drop a) = 0 := by rw [hd, rowG, if_neg c0]
      simp +contextual (disch := first | (simp only [factsC, clsL, clsS, clsC, isPtrD]; done) | omega | (simp only [push_nx, put_nx, del_nx]; omega) | (refine Nat.le_antisymm ?_ ?_ <;> simp only [push_nx, put_nx, del_nx] <;> omega) | fail) only [wpy, factsC, wpb, cst, wpk, wpl, forall_const, implies_true, false_implies, Int.reduceLE, Int.reduceLT, Nat.reduceLeDiff, UInt8.reduceToNat, ↓reduceIte, Nat.reduceEqDiff, Nat.reduceAdd, reduceCtorEq, Int.reduceToNat, clsL, clsS, clsC, Tryd.f126, a1, h3, h3', c0, hr0]
      first | exact hX1 | exact ⟨hX1, rfl⟩ | trace_state
  · have h3' : ws.length ≤ a := by omega
    have hr0 : rowG (ws.drop a) = 0 := by rw [List.drop_eq_nil_of_le (by omega)]; rfl
    simp +contextual (disch := first | (simp only [factsC, clsL, clsS, clsC, isPtrD]; done) | omega | (simp only [push_nx, put_nx, del_nx]; omega) | (refine Nat.le_antisymm ?_ ?_ <;> simp only [push_nx, put_nx, del_nx] <;> omega) | fail) only [wpy, factsC, wpb, cst, wpk, wpl, forall_const, implies_true, false_implies, Int.reduceLE, Int.reduceLT, Nat.reduceLeDiff, UInt8.reduceToNat, ↓reduceIte, Nat.reduceEqDiff, Nat.reduceAdd, reduceCtorEq, Int.reduceToNat, clsL, clsS, clsC, Tryd.f126, a1, h3, h3', hr0]
    first | exact Ext.refl _ | exact ⟨Ext.refl _, rfl⟩ | trace_state
end
end Go.Proofs.YtkibhdbmamfjcaaDoor

/-
  digest: rows made one, lists made their first row, the words that are left.
-/
set_option linter.unusedSimpArgs false
set_option linter.unusedVariables false
set_option linter.defProp false
set_option maxRecDepth 10000
namespace Go.Proofs.YtkibhdbmamfjcaaDoor
open Go.Proofs Go.Lx Go.Wx Go.IntWalk
noncomputable section

theorem gw_drop (ws : List WD) (i k : Nat) : gw (ws.drop i) k = gw ws (i + k) := by
  unfold gw
  rw [List.getD_eq_getElem?_getD, List.getD_eq_getElem?_getD, List.getElem?_drop]
theorem rowT_le : ∀ (l : List WD) (k : Nat), rowT l k ≤ k + l.length ∧ (rowT l k = 0 ∨ k + 2 ≤ rowT l k)
  | [], k => by simp [rowT]
  | [w], k => by simp [rowT]
  | w :: s :: r, k => by
    have ih := rowT_le r (k + 2)
    rw [rowT, List.length_cons, List.length_cons]
    split
    · split
      · omega
      · split
        · omega
        · omega
    · omega
theorem rowG_le (l : List WD) : rowG l ≤ l.length ∧ (rowG l = 0 ∨ 3 ≤ rowG l) := by
  cases l with
  | nil => simp [rowG]
  | cons w r =>
    rw [rowG, List.length_cons]
    have := rowT_le r 1
    split <;> omega
def rowsT : Nat → List WD → List WD
  | 0, _ => []
  | f + 1, l => if l = [] then [] else if rowG l = 0 then gw l 0 :: rowsT f (l.drop 1) else gw l 0 :: gw l 1 :: gw l (rowG l - 1) :: rowsT f (l.drop (rowG l))
def rowsF (ws : List WD) : List WD := rowsT (ws.length + 1) ws
def skipT : Nat → List WD → List WD
  | 0, l => l
  | f + 1, l => if l ≠ [] ∧ isS (gw l 0) [[44]] ∧ aloneG (l.drop 1) then skipT f (l.drop 4) else l
def listsT : Nat → List WD → List WD
  | 0, _ => []
  | f + 1, l => if l = [] then [] else if aloneG l then l.take 3 ++ listsT f (skipT l.length (l.drop 3)) else gw l 0 :: listsT f (l.drop 1)
def listsF (ws : List WD) : List WD := listsT (ws.length + 1) ws
theorem drop_ne {ws : List WD} {i : Nat} (h : i < ws.length) : ws.drop i ≠ [] := by
  intro q
  have := congrArg List.length q
  rw [List.length_drop] at this
  simp at this
  omega
theorem skipT_stop {g : Nat} {l : List WD} (h : ¬ (l ≠ [] ∧ isS (gw l 0) [[44]] ∧ aloneG (l.drop 1))) : skipT g l = l := by
  cases g with
  | zero => rfl
  | succ g => rw [skipT, if_neg h]
theorem wcells_cell : ∀ (ws : List WD), (wcells ws).all V.isCell = true
  | [] => rfl
  | w :: l => by
    rw [show wcells (w :: l) = w.cells ++ wcells l from rfl, List.all_append, wcells_cell l]
    rfl
theorem sub_i (a b : Nat) (h : b ≤ a) (ha : a < 2 ^ 40) : IntKind.i64.wrap ((a : Int) - b) = ((a - b : Nat) : Int) := by
  rw [← Int.ofNat_sub h]
  unfold IntKind.wrap
  simp [IntKind.signed, IntKind.bits]
  omega

variable {S : Set0} (hS : StdD S)
include hS
set_option maxHeartbeats 2000000 in
theorem rows_spec (lv : V) (ws : List WD) (h : H) (ha : Wds h lv ws) (hwl : ws.length < 2 ^ 27) : Pure S.cfg 87 [lv] h fun v h' => Wx.Acc h.nx h' v (wcells (rowsF ws)) 36 3 := by
  refine into Tryd.f87 _ Tryd.func87 (hS.ownD _ (by decide)) rfl rfl (by kernel_rfl) (by kernel_rfl) ?_
  have a1 := ha.len
  simp +contextual (disch := first | (simp only [factsC, clsL, clsS, clsC, isPtrD]; done) | omega | (simp only [push_nx, put_nx, del_nx]; omega) | (refine Nat.le_antisymm ?_ ?_ <;> simp only [push_nx, put_nx, del_nx] <;> omega) | fail) only [wpy, factsC, wpb, cst, wpk, wpl, forall_const, implies_true, false_implies, Int.reduceLE, Int.reduceLT, Nat.reduceLeDiff, UInt8.reduceToNat, ↓reduceIte, Nat.reduceEqDiff, Nat.reduceAdd, reduceCtorEq, Int.reduceToNat, clsL, clsS, clsC, Tryd.f87, a1]
  refine run_loop (fun k env h' => ∃ (i f : Nat) (l : V) (acc : List WD), k = ws.length - i ∧ i ≤ ws.length ∧ env 0 = lv ∧ env 3 = l ∧ env 4 = .int .i64 i ∧ acc.length ≤ i ∧ ws.length < i + f ∧ rowsF ws = acc ++ rowsT f (ws.drop i) ∧ Ext h h' ∧ Wx.Acc h.nx h' l (wcells acc) 36 3) ws.length ⟨0, ws.length + 1, .nilslice, [], ?_⟩ ?_
  · simp +contextual (disch := first | (simp only [factsC, clsL, clsS, clsC, isPtrD]; done) | omega | (simp only [push_nx, put_nx, del_nx]; omega) | (refine Nat.le_antisymm ?_ ?_ <;> simp only [push_nx, put_nx, del_nx] <;> omega) | fail) only [wpy, factsC, wpb, cst, wpk, wpl, forall_const, implies_true, false_implies, Int.reduceLE, Int.reduceLT, Nat.reduceLeDiff, UInt8.reduceToNat, ↓reduceIte, Nat.reduceEqDiff, Nat.reduceAdd, reduceCtorEq, Int.reduceToNat, clsL, clsS, clsC]
    exact ⟨by simp, by omega, rfl, Ext.refl _, .inl ⟨rfl, rfl⟩⟩
  rintro k env h' ⟨i, f, l, acc, rfl, hi, e0, e3, e4, hacc, hf, hr, hx, hl⟩
  have hxn := hx.1
  have hc1 := hl.cell.1
  have hc2 := hl.cell.2
  obtain ⟨f, rfl⟩ : ∃ g, f = g + 1 := ⟨f - 1, by omega⟩
  by_cases hi2 : i < ws.length
  · rw [rowsT, if_neg (drop_ne hi2)] at hr
    have hah := ha.ext hx
    simp +contextual (disch := first | (simp only [factsC, clsL, clsS, clsC, isPtrD]; done) | omega | (simp only [push_nx, put_nx, del_nx]; omega) | (refine Nat.le_antisymm ?_ ?_ <;> simp only [push_nx, put_nx, del_nx] <;> omega) | fail) only [wpy, factsC, wpb, cst, wpk, wpl, forall_const, implies_true, false_implies, Int.reduceLE, Int.reduceLT, Nat.reduceLeDiff, UInt8.reduceToNat, ↓reduceIte, Nat.reduceEqDiff, Nat.reduceAdd, reduceCtorEq, Int.reduceToNat, clsL, clsS, clsC, Tryd.f87, e0, e3, e4, hi2, a1]
    refine callF_pure (row_spec hS lv ws i h' hah hwl (by omega)) ?_
    rintro v h1 hx1 rfl
    have hX1 : Ext h h1 := hx.trans hx1
    have hle := rowG_le (ws.drop i)
    rw [List.length_drop] at hle
    obtain ⟨b, o, m, c, fl, rfl, hm, hb, hg, hw1, hw2, -⟩ := (ha.ext hX1).opened (by omega)
    have u0 := hw1 i hi2
    have w0 := hw2 i hi2
    by_cases hz : rowG (ws.drop i) = 0
    · rw [if_pos hz, gw_drop, Nat.add_zero, List.drop_drop] at hr
      simp +contextual (disch := first | (simp only [factsC, clsL, clsS, clsC, isPtrD]; done) | omega | (simp only [push_nx, put_nx, del_nx]; omega) | (refine Nat.le_antisymm ?_ ?_ <;> simp only [push_nx, put_nx, del_nx] <;> omega) | fail) only [wpy, factsC, wpb, cst, wpk, wpl, forall_const, implies_true, false_implies, Int.reduceLE, Int.reduceLT, Nat.reduceLeDiff, UInt8.reduceToNat, ↓reduceIte, Nat.reduceEqDiff, Nat.reduceAdd, reduceCtorEq, Int.reduceToNat, clsL, clsS, clsC, Tryd.f87, e0, e3, e4, hi2, hz, hg, u0, w0]
      refine app_word (n0 := h.nx) (l := l) (acc := acc) (gw ws i) (by simp +contextual (disch := first | (simp only [factsC, clsL, clsS, clsC, isPtrD]; done) | omega | (simp only [push_nx, put_nx, del_nx]; omega) | (refine Nat.le_antisymm ?_ ?_ <;> simp only [push_nx, put_nx, del_nx] <;> omega) | fail) only [wpy, factsC, wpb, cst, wpk, wpl, forall_const, implies_true, false_implies, Int.reduceLE, Int.reduceLT, Nat.reduceLeDiff, UInt8.reduceToNat, ↓reduceIte, Nat.reduceEqDiff, Nat.reduceAdd, reduceCtorEq, Int.reduceToNat, clsL, clsS, clsC]) (by simp +contextual (disch := first | (simp only [factsC, clsL, clsS, clsC, isPtrD]; done) | omega | (simp only [push_nx, put_nx, del_nx]; omega) | (refine Nat.le_antisymm ?_ ?_ <;> simp only [push_nx, put_nx, del_nx] <;> omega) | fail) only [wpy, factsC, wpb, cst, wpk, wpl, forall_const, implies_true, false_implies, Int.reduceLE, Int.reduceLT, Nat.reduceLeDiff, UInt8.reduceToNat, ↓reduceIte, Nat.reduceEqDiff, Nat.reduceAdd, reduceCtorEq, Int.reduceToNat, clsL, clsS, clsC]) (hl.ext hx1) (by omega) (fun k hk => by rw [fresh_def]; exact .inl hk) hX1.1 ?_
      intro v h4 L ha4 hn4 hf4
      have hv1 := ha4.cell.1
      have hv2 := ha4.cell.2
      simp +contextual (disch := first | (simp only [factsC, clsL, clsS, clsC, isPtrD]; done) | omega | (simp only [push_nx, put_nx, del_nx]; omega) | (refine Nat.le_antisymm ?_ ?_ <;> simp only [push_nx, put_nx, del_nx] <;> omega) | fail) only [wpy, factsC, wpb, cst, wpk, wpl, forall_const, implies_true, false_implies, Int.reduceLE, Int.reduceLT, Nat.reduceLeDiff, UInt8.reduceToNat, ↓reduceIte, Nat.reduceEqDiff, Nat.reduceAdd, reduceCtorEq, Int.reduceToNat, clsL, clsS, clsC, Tryd.f87, e0, e3, e4, hi2, hv1, hv2]
      exact ⟨_, by omega, i + 1, f, v, acc ++ [gw ws i], rfl, by omega, rfl, rfl, by rw [List.length_append]; simp; omega, by omega, by rw [hr]; simp, ext_of hX1 hn4 hf4, ha4⟩
    · generalize hn : rowG (ws.drop i) = n at *
      rw [if_neg hz, gw_drop, gw_drop, gw_drop, Nat.add_zero, List.drop_drop] at hr
      have hn3 : 3 ≤ n := by omega
      have k1 : i + 1 < ws.length := by omega
      have k2 : i + (n - 1) < ws.length := by omega
      have u1 := hw1 (i + 1) k1
      have w1 := hw2 (i + 1) k1
      have u2 := hw1 (i + (n - 1)) k2
      have w2 := hw2 (i + (n - 1)) k2
      have e9 : IntKind.i64.wrap (((i + n : Nat) : Int) - 1) = ((i + (n - 1) : Nat) : Int) := by
        have := sub_i (i + n) 1 (by omega) (by omega)
        rw [show i + n - 1 = i + (n - 1) by omega] at this
        exact this
      simp +contextual (disch := first | (simp only [factsC, clsL, clsS, clsC, isPtrD]; done) | omega | (simp only [push_nx, put_nx, del_nx]; omega) | (refine Nat.le_antisymm ?_ ?_ <;> simp only [push_nx, put_nx, del_nx] <;> omega) | exact dok (by kernel_rfl)) only [draw_calm, draw_calmA, wpy, factsC, wpb, cst, wpk, wpl, forall_const, implies_true, false_implies, Int.reduceLE, Int.reduceLT, Nat.reduceLeDiff, UInt8.reduceToNat, ↓reduceIte, Nat.reduceEqDiff, Nat.reduceAdd, reduceCtorEq, Int.reduceToNat, clsL, clsS, clsC, Tryd.f87, e0, e3, e4, hi2, hz, hg, u0, w0, u1, w1, u2, w2, k1, k2, e9]
      refine append_new (sv := l) (n0 := h.nx) (by simp +contextual (disch := first | (simp only [factsC, clsL, clsS, clsC, isPtrD]; done) | omega | (simp only [push_nx, put_nx, del_nx]; omega) | (refine Nat.le_antisymm ?_ ?_ <;> simp only [push_nx, put_nx, del_nx] <;> omega) | fail) only [wpy, factsC, wpb, cst, wpk, wpl, forall_const, implies_true, false_implies, Int.reduceLE, Int.reduceLT, Nat.reduceLeDiff, UInt8.reduceToNat, ↓reduceIte, Nat.reduceEqDiff, Nat.reduceAdd, reduceCtorEq, Int.reduceToNat, clsL, clsS, clsC]) D1.ap23 ⟨.slice 36, by kernel_rfl, rfl⟩ (hl.ext hx1) (by simp +contextual (disch := first | (simp only [factsC, clsL, clsS, clsC, isPtrD]; done) | omega | (simp only [push_nx, put_nx, del_nx]; omega) | (refine Nat.le_antisymm ?_ ?_ <;> simp only [push_nx, put_nx, del_nx] <;> omega) | fail) only [wpy, factsC, wpb, cst, wpk, wpl, forall_const, implies_true, false_implies, Int.reduceLE, Int.reduceLT, Nat.reduceLeDiff, UInt8.reduceToNat, ↓reduceIte, Nat.reduceEqDiff, Nat.reduceAdd, reduceCtorEq, Int.reduceToNat, clsL, clsS, clsC]) (n := 3) (by decide) rfl rfl ?_ (by decide) (fun k hk => by rw [fresh_def]; exact .inl hk) hX1.1 ?_
      · rw [wcells_len]
        show _ + 9 ≤ _
        omega
      intro v h4 L ha4 hn4 _ hf4 _
      have hv1 := ha4.cell.1
      have hv2 := ha4.cell.2
      simp +contextual (disch := first | (simp only [factsC, clsL, clsS, clsC, isPtrD]; done) | omega | (simp only [push_nx, put_nx, del_nx]; omega) | (refine Nat.le_antisymm ?_ ?_ <;> simp only [push_nx, put_nx, del_nx] <;> omega) | fail) only [wpy, factsC, wpb, cst, wpk, wpl, forall_const, implies_true, false_implies, Int.reduceLE, Int.reduceLT, Nat.reduceLeDiff, UInt8.reduceToNat, ↓reduceIte, Nat.reduceEqDiff, Nat.reduceAdd, reduceCtorEq, Int.reduceToNat, clsL, clsS, clsC, Tryd.f87, e0, e3, e4, hi2, hv1, hv2]
      exact ⟨_, by omega, i + n, f, v, acc ++ [gw ws i, gw ws (i + 1), gw ws (i + (n - 1))], rfl, by omega, rfl, rfl, by rw [List.length_append]; simp; omega, by omega, by rw [hr]; simp, ext_of hX1 hn4 hf4, by
        rw [show wcells (acc ++ [gw ws i, gw ws (i + 1), gw ws (i + (n - 1))]) = wcells acc ++ ([gw ws i, gw ws (i + 1), gw ws (i + (n - 1))].flatMap WD.cells) by simp [wcells]]
        exact ha4⟩
  · rw [rowsT, List.drop_eq_nil_of_le (by omega), if_pos rfl, List.append_nil] at hr
    simp +contextual (disch := first | (simp only [factsC, clsL, clsS, clsC, isPtrD]; done) | omega | (simp only [push_nx, put_nx, del_nx]; omega) | (refine Nat.le_antisymm ?_ ?_ <;> simp only [push_nx, put_nx, del_nx] <;> omega) | fail) only [wpy, factsC, wpb, cst, wpk, wpl, forall_const, implies_true, false_implies, Int.reduceLE, Int.reduceLT, Nat.reduceLeDiff, UInt8.reduceToNat, ↓reduceIte, Nat.reduceEqDiff, Nat.reduceAdd, reduceCtorEq, Int.reduceToNat, clsL, clsS, clsC, Tryd.f87, e0, e3, e4, hi2, a1]
    exact ⟨hx, by rw [hr]; exact hl⟩
set_option maxHeartbeats 2000000 in
theorem lists_spec (lv : V) (ws : List WD) (h : H) (ha : Wds h lv ws) (hwl : ws.length < 2 ^ 27) : Pure S.cfg 86 [lv] h fun v h' => Wx.Acc h.nx h' v (wcells (listsF ws)) 36 3 := by
  refine into Tryd.f86 _ Tryd.func86 (hS.ownD _ (by decide)) rfl rfl (by kernel_rfl) (by kernel_rfl) ?_
  have a1 := ha.len
  simp +contextual (disch := first | (simp only [factsC, clsL, clsS, clsC, isPtrD]; done) | omega | (simp only [push_nx, put_nx, del_nx]; omega) | (refine Nat.le_antisymm ?_ ?_ <;> simp only [push_nx, put_nx, del_nx] <;> omega) | fail) only [wpy, factsC, wpb, cst, wpk, wpl, forall_const, implies_true, false_implies, Int.reduceLE, Int.reduceLT, Nat.reduceLeDiff, UInt8.reduceToNat, ↓reduceIte, Nat.reduceEqDiff, Nat.reduceAdd, reduceCtorEq, Int.reduceToNat, clsL, clsS, clsC, Tryd.f86, a1]
  refine run_loop (fun k env h' => ∃ (i f : Nat) (l : V) (acc : List WD), k = ws.length - i ∧ i ≤ ws.length ∧ env 0 = lv ∧ env 3 = l ∧ env 4 = .int .i64 i ∧ acc.length ≤ i ∧ ws.length < i + f ∧ listsF ws = acc ++ listsT f (ws.drop i) ∧ Ext h h' ∧ Wx.Acc h.nx h' l (wcells acc) 36 3) ws.length ⟨0, ws.length + 1, .nilslice, [], ?_⟩ ?_
  · simp +contextual (disch := first | (simp only [factsC, clsL, clsS, clsC, isPtrD]; done) | omega | (simp only [push_nx, put_nx, del_nx]; omega) | (refine Nat.le_antisymm ?_ ?_ <;> simp only [push_nx, put_nx, del_nx] <;> omega) | fail) only [wpy, factsC, wpb, cst, wpk, wpl, forall_const, implies_true, false_implies, Int.reduceLE, Int.reduceLT, Nat.reduceLeDiff, UInt8.reduceToNat, ↓reduceIte, Nat.reduceEqDiff, Nat.reduceAdd, reduceCtorEq, Int.reduceToNat, clsL, clsS, clsC]
    exact ⟨by simp, by omega, rfl, Ext.refl _, .inl ⟨rfl, rfl⟩⟩
  rintro k env h' ⟨i, f, l, acc, rfl, hi, e0, e3, e4, hacc, hf, hr, hx, hl⟩
  have hxn := hx.1
  have hc1 := hl.cell.1
  have hc2 := hl.cell.2
  obtain ⟨f, rfl⟩ : ∃ g, f = g + 1 := ⟨f - 1, by omega⟩
  by_cases hi2 : i < ws.length
  · rw [listsT, if_neg (drop_ne hi2)] at hr
    have hah := ha.ext hx
    simp +contextual (disch := first | (simp only [factsC, clsL, clsS, clsC, isPtrD]; done) | omega | (simp only [push_nx, put_nx, del_nx]; omega) | (refine Nat.le_antisymm ?_ ?_ <;> simp only [push_nx, put_nx, del_nx] <;> omega) | fail) only [wpy, factsC, wpb, cst, wpk, wpl, forall_const, implies_true, false_implies, Int.reduceLE, Int.reduceLT, Nat.reduceLeDiff, UInt8.reduceToNat, ↓reduceIte, Nat.reduceEqDiff, Nat.reduceAdd, reduceCtorEq, Int.reduceToNat, clsL, clsS, clsC, Tryd.f86, e0, e3, e4, hi2, a1]
    refine callF_pure (alone_spec hS lv ws i h' hah hwl (by omega)) ?_
    rintro v h1 hx1 rfl
    have hX1 : Ext h h1 := hx.trans hx1
    obtain ⟨b, o, m, c, fl, rfl, hm, hb, hg, hw1, hw2, hw3⟩ := (ha.ext hX1).opened (by omega)
    have u0 := hw1 i hi2
    have w0 := hw2 i hi2
    by_cases hz : aloneG (ws.drop i)
    · have h3 : i + 3 ≤ ws.length := Decidable.byContradiction fun q => by rw [aloneG_no q] at hz; exact hz
      rw [if_pos hz, List.drop_drop, List.length_drop] at hr
      simp +contextual (disch := first | (simp only [factsC, clsL, clsS, clsC, isPtrD]; done) | omega | (simp only [push_nx, put_nx, del_nx]; omega) | (refine Nat.le_antisymm ?_ ?_ <;> simp only [push_nx, put_nx, del_nx] <;> omega) | fail) only [wpy, factsC, wpb, cst, wpk, wpl, forall_const, implies_true, false_implies, Int.reduceLE, Int.reduceLT, Nat.reduceLeDiff, UInt8.reduceToNat, ↓reduceIte, Nat.reduceEqDiff, Nat.reduceAdd, reduceCtorEq, Int.reduceToNat, clsL, clsS, clsC, Tryd.f86, e0, e3, e4, hi2, hz]
      refine slice_row (e := 36) (sz := 3) (b := b) (o := o) (n := ws.length) (m := m) (l := i) (hh := i + 3) (mm := m) (by kernel_rfl) D1.sz36 (by simp +contextual (disch := first | (simp only [factsC, clsL, clsS, clsC, isPtrD]; done) | omega | (simp only [push_nx, put_nx, del_nx]; omega) | (refine Nat.le_antisymm ?_ ?_ <;> simp only [push_nx, put_nx, del_nx] <;> omega) | fail) only [wpy, factsC, wpb, cst, wpk, wpl, forall_const, implies_true, false_implies, Int.reduceLE, Int.reduceLT, Nat.reduceLeDiff, UInt8.reduceToNat, ↓reduceIte, Nat.reduceEqDiff, Nat.reduceAdd, reduceCtorEq, Int.reduceToNat, clsL, clsS, clsC]) (by rw [hg]; rfl) (fun _ => rfl) (by simp +contextual (disch := first | (simp only [factsC, clsL, clsS, clsC, isPtrD]; done) | omega | (simp only [push_nx, put_nx, del_nx]; omega) | (refine Nat.le_antisymm ?_ ?_ <;> simp only [push_nx, put_nx, del_nx] <;> omega) | fail) only [wpy, factsC, wpb, cst, wpk, wpl, forall_const, implies_true, false_implies, Int.reduceLE, Int.reduceLT, Nat.reduceLeDiff, UInt8.reduceToNat, ↓reduceIte, Nat.reduceEqDiff, Nat.reduceAdd, reduceCtorEq, Int.reduceToNat, clsL, clsS, clsC]; exact bounds_both (by omega) (by omega)) (by omega) ?_
      rw [show i + 3 - i = 3 by omega]
      have hnl : (wcells ((ws.drop i).take 3)).length = 3 * 3 := by rw [wcells_len, List.length_take, List.length_drop, Nat.min_eq_left (by omega)]
      simp +contextual (disch := first | (simp only [factsC, clsL, clsS, clsC, isPtrD]; done) | omega | (simp only [push_nx, put_nx, del_nx]; omega) | (refine Nat.le_antisymm ?_ ?_ <;> simp only [push_nx, put_nx, del_nx] <;> omega) | fail) only [wpy, factsC, wpb, cst, wpk, wpl, forall_const, implies_true, false_implies, Int.reduceLE, Int.reduceLT, Nat.reduceLeDiff, UInt8.reduceToNat, ↓reduceIte, Nat.reduceEqDiff, Nat.reduceAdd, reduceCtorEq, Int.reduceToNat, clsL, clsS, clsC, Tryd.f86, e0, e3, e4, hi2, hz]
      refine append_accV (sv := l) (n0 := h.nx) (cells := wcells acc) (new := wcells ((ws.drop i).take 3)) (b2 := b) (o2 := o + i * 3) (n := 3) (m := m - i) (by simp +contextual (disch := first | (simp only [factsC, clsL, clsS, clsC, isPtrD]; done) | omega | (simp only [push_nx, put_nx, del_nx]; omega) | (refine Nat.le_antisymm ?_ ?_ <;> simp only [push_nx, put_nx, del_nx] <;> omega) | fail) only [wpy, factsC, wpb, cst, wpk, wpl, forall_const, implies_true, false_implies, Int.reduceLE, Int.reduceLT, Nat.reduceLeDiff, UInt8.reduceToNat, ↓reduceIte, Nat.reduceEqDiff, Nat.reduceAdd, reduceCtorEq, Int.reduceToNat, clsL, clsS, clsC]) D1.ap23 ⟨.slice 36, by kernel_rfl, rfl⟩ (hl.ext hx1) (by simp +contextual (disch := first | (simp only [factsC, clsL, clsS, clsC, isPtrD]; done) | omega | (simp only [push_nx, put_nx, del_nx]; omega) | (refine Nat.le_antisymm ?_ ?_ <;> simp only [push_nx, put_nx, del_nx] <;> omega) | fail) only [wpy, factsC, wpb, cst, wpk, wpl, forall_const, implies_true, false_implies, Int.reduceLE, Int.reduceLT, Nat.reduceLeDiff, UInt8.reduceToNat, ↓reduceIte, Nat.reduceEqDiff, Nat.reduceAdd, reduceCtorEq, Int.reduceToNat, clsL, clsS, clsC]) (by decide) ?_ hnl ?_ ?_ (by decide) (fun k hk => by rw [fresh_def]; exact .inl hk) ?_ hX1.1
      · rw [hg]
        unfold rdC
        have hb9 : Nat.ble (o + i * 3 + 3 * 3) c.length = true := ble_iff.2 (by have := hw1 (i + 2) (by omega); omega)
        simp only [hb9, cond_true]
        exact congrArg some (row_sub (k := 3) hw3 h3)
      · exact wcells_cell _
      · rw [wcells_len, hnl]
        omega
      intro v h4 L ha4 hst hL
      have hX4 : Ext h h4 := StaysBut.ext (n0 := 0) hX1 hst (hl.ext hx1)
      rw [← wcells_app] at ha4
      have hv1 := ha4.cell.1
      have hv2 := ha4.cell.2
      simp +contextual (disch := first | (simp only [factsC, clsL, clsS, clsC, isPtrD]; done) | omega | (simp only [push_nx, put_nx, del_nx]; omega) | (refine Nat.le_antisymm ?_ ?_ <;> simp only [push_nx, put_nx, del_nx] <;> omega) | fail) only [wpy, factsC, wpb, cst, wpk, wpl, forall_const, implies_true, false_implies, Int.reduceLE, Int.reduceLT, Nat.reduceLeDiff, UInt8.reduceToNat, ↓reduceIte, Nat.reduceEqDiff, Nat.reduceAdd, reduceCtorEq, Int.reduceToNat, clsL, clsS, clsC, Tryd.f86, e0, e3, e4, hi2, hv1, hv2]
      refine run_loop (fun k env2 h2 => ∃ (j g : Nat), k = ws.length + 4 - j ∧ i + 3 ≤ j ∧ j ≤ ws.length ∧ env2 0 = .slice b o ws.length m ∧ env2 3 = v ∧ env2 4 = .int .i64 j ∧ ws.length ≤ j + g ∧ skipT (ws.length - i) (ws.drop (i + 3)) = skipT g (ws.drop j) ∧ Ext h h2 ∧ Wx.Acc h.nx h2 v (wcells (acc ++ (ws.drop i).take 3)) 36 3) (ws.length + 4 - (i + 3)) ⟨i + 3, ws.length - i, ?_⟩ ?_
      · simp +contextual (disch := first | (simp only [factsC, clsL, clsS, clsC, isPtrD]; done) | omega | (simp only [push_nx, put_nx, del_nx]; omega) | (refine Nat.le_antisymm ?_ ?_ <;> simp only [push_nx, put_nx, del_nx] <;> omega) | fail) only [wpy, factsC, wpb, cst, wpk, wpl, forall_const, implies_true, false_implies, Int.reduceLE, Int.reduceLT, Nat.reduceLeDiff, UInt8.reduceToNat, ↓reduceIte, Nat.reduceEqDiff, Nat.reduceAdd, reduceCtorEq, Int.reduceToNat, clsL, clsS, clsC, e0]
        exact ⟨by omega, by omega, hX4, ha4⟩
      rintro k env2 h2 ⟨j, g, rfl, hj3, hjl, f0, f3, f4, hg2, hsk, hx2, hl2⟩
      have hb1 : b < h.nx := by
        rcases ha with ⟨q, _⟩ | ⟨b', _, _, _, _, q, _, q2, _⟩
        · cases q
        · cases q; exact q2
      have hgh : h2.get b = some (.cells c 36 fl) := by rw [hx2.2 b hb1, ← hX1.2 b hb1]; exact hg
      have hfin : ∀ h5, Ext h2 h5 → skipT g (ws.drop j) = ws.drop j → ∃ m', m' < ws.length - i ∧ ∃ (i' f' : Nat) (l : V) (acc' : List WD), m' = ws.length - i' ∧ i' ≤ ws.length ∧ v = l ∧ j = i' ∧ acc'.length ≤ i' ∧ ws.length < i' + f' ∧ listsF ws = acc' ++ listsT f' (ws.drop i') ∧ Ext h h5 ∧ Wx.Acc h.nx h5 l (wcells acc') 36 3 := fun h5 hx5 hq => ⟨_, by omega, j, f, v, acc ++ (ws.drop i).take 3, rfl, hjl, rfl, rfl, by rw [List.length_append, List.length_take, List.length_drop]; omega, by omega, by rw [hr, hsk, hq, List.append_assoc], hx2.trans hx5, hl2.ext hx5⟩
      by_cases k0 : j < ws.length
      · have u0 := hw1 j k0
        have w0 := hw2 j k0
        simp +contextual (disch := first | (simp only [factsC, clsL, clsS, clsC, isPtrD]; done) | omega | (simp only [push_nx, put_nx, del_nx]; omega) | (refine Nat.le_antisymm ?_ ?_ <;> simp only [push_nx, put_nx, del_nx] <;> omega) | fail) only [wpy, factsC, wpb, cst, wpk, wpl, forall_const, implies_true, false_implies, Int.reduceLE, Int.reduceLT, Nat.reduceLeDiff, UInt8.reduceToNat, ↓reduceIte, Nat.reduceEqDiff, Nat.reduceAdd, reduceCtorEq, Int.reduceToNat, clsL, clsS, clsC, Tryd.f86, f0, f3, f4, k0, hgh, u0, w0]
        refine callF_pure (dsign_new hS (gw ws j) [[44]] 1 _ 9 false _ rfl rfl (by decide)) ?_
        rintro v6 h6 hx6 rfl
        have hX6 : Ext h2 h6 := ((Ext.refl h2).push _).trans hx6
        by_cases c0 : isS (gw ws j) [[44]]
        · simp +contextual (disch := first | (simp only [factsC, clsL, clsS, clsC, isPtrD]; done) | omega | (simp only [push_nx, put_nx, del_nx]; omega) | (refine Nat.le_antisymm ?_ ?_ <;> simp only [push_nx, put_nx, del_nx] <;> omega) | fail) only [wpy, factsC, wpb, cst, wpk, wpl, forall_const, implies_true, false_implies, Int.reduceLE, Int.reduceLT, Nat.reduceLeDiff, UInt8.reduceToNat, ↓reduceIte, Nat.reduceEqDiff, Nat.reduceAdd, reduceCtorEq, Int.reduceToNat, clsL, clsS, clsC, Tryd.f86, f0, f3, f4, k0, c0]
          refine callF_pure (alone_spec hS _ ws (j + 1) h6 (ha.ext (hx2.trans hX6)) hwl (by omega)) ?_
          rintro v7 h7 hx7 rfl
          have hX7 : Ext h2 h7 := hX6.trans hx7
          by_cases c1 : aloneG (ws.drop (j + 1))
          · have hj4 : j + 1 + 3 ≤ ws.length := Decidable.byContradiction fun q => by rw [aloneG_no q] at c1; exact c1
            obtain ⟨g, rfl⟩ : ∃ g', g = g' + 1 := ⟨g - 1, by omega⟩
            rw [skipT, if_pos ⟨drop_ne k0, by rw [gw_drop, Nat.add_zero]; exact c0, by rw [List.drop_drop]; exact c1⟩, List.drop_drop] at hsk
            simp +contextual (disch := first | (simp only [factsC, clsL, clsS, clsC, isPtrD]; done) | omega | (simp only [push_nx, put_nx, del_nx]; omega) | (refine Nat.le_antisymm ?_ ?_ <;> simp only [push_nx, put_nx, del_nx] <;> omega) | fail) only [wpy, factsC, wpb, cst, wpk, wpl, forall_const, implies_true, false_implies, Int.reduceLE, Int.reduceLT, Nat.reduceLeDiff, UInt8.reduceToNat, ↓reduceIte, Nat.reduceEqDiff, Nat.reduceAdd, reduceCtorEq, Int.reduceToNat, clsL, clsS, clsC, Tryd.f86, f0, f3, f4, k0, c0, c1]
            exact ⟨_, by omega, j + 4, g, rfl, by omega, by omega, rfl, by omega, hsk, hx2.trans hX7, hl2.ext hX7⟩
          · simp +contextual (disch := first | (simp only [factsC, clsL, clsS, clsC, isPtrD]; done) | omega | (simp only [push_nx, put_nx, del_nx]; omega) | (refine Nat.le_antisymm ?_ ?_ <;> simp only [push_nx, put_nx, del_nx] <;> omega) | fail) only [wpy, factsC, wpb, cst, wpk, wpl, forall_const, implies_true, false_implies, Int.reduceLE, Int.reduceLT, Nat.reduceLeDiff, UInt8.reduceToNat, ↓reduceIte, Nat.reduceEqDiff, Nat.reduceAdd, reduceCtorEq, Int.reduceToNat, clsL, clsS, clsC, Tryd.f86, f0, f3, f4, k0, c0, c1]
            exact hfin _ hX7 (skipT_stop fun q => c1 (by have := q.2.2; rw [List.drop_drop] at this; exact this))
        · simp +contextual (disch := first | (simp only [factsC, clsL, clsS, clsC, isPtrD]; done) | omega | (simp only [push_nx, put_nx, del_nx]; omega) | (refine Nat.le_antisymm ?_ ?_ <;> simp only [push_nx, put_nx, del_nx] <;> omega) | fail) only [wpy, factsC, wpb, cst, wpk, wpl, forall_const, implies_true, false_implies, Int.reduceLE, Int.reduceLT, Nat.reduceLeDiff, UInt8.reduceToNat, ↓reduceIte, Nat.reduceEqDiff, Nat.reduceAdd, reduceCtorEq, Int.reduceToNat, clsL, clsS, clsC, Tryd.f86, f0, f3, f4, k0, c0]
          exact hfin _ hX6 (skipT_stop fun q => c0 (by have := q.2.1; rw [gw_drop, Nat.add_zero] at this; exact this))
      · simp +contextual (disch := first | (simp only [factsC, clsL, clsS, clsC, isPtrD]; done) | omega | (simp only [push_nx, put_nx, del_nx]; omega) | (refine Nat.le_antisymm ?_ ?_ <;> simp only [push_nx, put_nx, del_nx] <;> omega) | fail) only [wpy, factsC, wpb, cst, wpk, wpl, forall_const, implies_true, false_implies, Int.reduceLE, Int.reduceLT, Nat.reduceLeDiff, UInt8.reduceToNat, ↓reduceIte, Nat.reduceEqDiff, Nat.reduceAdd, reduceCtorEq, Int.reduceToNat, clsL, clsS, clsC, Tryd.f86, f0, f3, f4, k0]
        exact hfin _ (Ext.refl _) (skipT_stop fun q => q.1 (List.drop_eq_nil_of_le (by omega)))
    · rw [if_neg hz, gw_drop, Nat.add_zero, List.drop_drop] at hr
      simp +contextual (disch := first | (simp only [factsC, clsL, clsS, clsC, isPtrD]; done) | omega | (simp only [push_nx, put_nx, del_nx]; omega) | (refine Nat.le_antisymm ?_ ?_ <;> simp only [push_nx, put_nx, del_nx] <;> omega) | fail) only [wpy, factsC, wpb, cst, wpk, wpl, forall_const, implies_true, false_implies, Int.reduceLE, Int.reduceLT, Nat.reduceLeDiff, UInt8.reduceToNat, ↓reduceIte, Nat.reduceEqDiff, Nat.reduceAdd, reduceCtorEq, Int.reduceToNat, clsL, clsS, clsC, Tryd.f86, e0, e3, e4, hi2, hz, hg, u0, w0]
      refine app_word (n0 := h.nx) (l := l) (acc := acc) (gw ws i) (by simp +contextual (disch := first | (simp only [factsC, clsL, clsS, clsC, isPtrD]; done) | omega | (simp only [push_nx, put_nx, del_nx]; omega) | (refine Nat.le_antisymm ?_ ?_ <;> simp only [push_nx, put_nx, del_nx] <;> omega) | fail) only [wpy, factsC, wpb, cst, wpk, wpl, forall_const, implies_true, false_implies, Int.reduceLE, Int.reduceLT, Nat.reduceLeDiff, UInt8.reduceToNat, ↓reduceIte, Nat.reduceEqDiff, Nat.reduceAdd, reduceCtorEq, Int.reduceToNat, clsL, clsS, clsC]) (by simp +contextual (disch := first | (simp only [factsC, clsL, clsS, clsC, isPtrD]; done) | omega | (simp only [push_nx, put_nx, del_nx]; omega) | (refine Nat.le_antisymm ?_ ?_ <;> simp only [push_nx, put_nx, del_nx] <;> omega) | fail) only [wpy, factsC, wpb, cst, wpk, wpl, forall_const, implies_true, false_implies, Int.reduceLE, Int.reduceLT, Nat.reduceLeDiff, UInt8.reduceToNat, ↓reduceIte, Nat.reduceEqDiff, Nat.reduceAdd, reduceCtorEq, Int.reduceToNat, clsL, clsS, clsC]) (hl.ext hx1) (by omega) (fun k hk => by rw [fresh_def]; exact .inl hk) hX1.1 ?_
      intro v h4 L ha4 hn4 hf4
      have hv1 := ha4.cell.1
      have hv2 := ha4.cell.2
      simp +contextual (disch := first | (simp only [factsC, clsL, clsS, clsC, isPtrD]; done) | omega | (simp only [push_nx, put_nx, del_nx]; omega) | (refine Nat.le_antisymm ?_ ?_ <;> simp only [push_nx, put_nx, del_nx] <;> omega) | fail) only [wpy, factsC, wpb, cst, wpk, wpl, forall_const, implies_true, false_implies, Int.reduceLE, Int.reduceLT, Nat.reduceLeDiff, UInt8.reduceToNat, ↓reduceIte, Nat.reduceEqDiff, Nat.reduceAdd, reduceCtorEq, Int.reduceToNat, clsL, clsS, clsC, Tryd.f86, e0, e3, e4, hi2, hv1, hv2]
      exact ⟨_, by omega, i + 1, f, v, acc ++ [gw ws i], rfl, by omega, rfl, rfl, by rw [List.length_append]; simp; omega, by omega, by rw [hr]; simp, ext_of hX1 hn4 hf4, ha4⟩
  · rw [listsT, List.drop_eq_nil_of_le (by omega), if_pos rfl, List.append_nil] at hr
    simp +contextual (disch := first | (simp only [factsC, clsL, clsS, clsC, isPtrD]; done) | omega | (simp only [push_nx, put_nx, del_nx]; omega) | (refine Nat.le_antisymm ?_ ?_ <;> simp only [push_nx, put_nx, del_nx] <;> omega) | fail) only [wpy, factsC, wpb, cst, wpk, wpl, forall_const, implies_true, false_implies, Int.reduceLE, Int.reduceLT, Nat.reduceLeDiff, UInt8.reduceToNat, ↓reduceIte, Nat.reduceEqDiff, Nat.reduceAdd, reduceCtorEq, Int.reduceToNat, clsL, clsS, clsC, Tryd.f86, e0, e3, e4, hi2, a1]
    exact ⟨hx, by rw [hr]; exact hl⟩
/-- the signs ; at the end go -/
def trimN (ws : List WD) : Nat → Nat
  | 0 => 0
  | n + 1 => if isS (gw ws n) [[59]] then trimN ws n else n + 1
def wordsF (ws : List WD) : List WD := (listsF (rowsF (sigF (valF ws)))).take (trimN (listsF (rowsF (sigF (valF ws)))) (listsF (rowsF (sigF (valF ws)))).length)
omit hS in
theorem rowsT_len : ∀ (f : Nat) (l : List WD), (rowsT f l).length ≤ l.length
  | 0, l => Nat.zero_le _
  | f + 1, l => by
    have hle := rowG_le l
    rw [rowsT]
    split
    · exact Nat.zero_le _
    · rename_i hne
      have hp : 0 < l.length := List.length_pos_iff.2 hne
      split
      · have := rowsT_len f (l.drop 1)
        rw [List.length_drop] at this
        rw [List.length_cons]
        omega
      · have := rowsT_len f (l.drop (rowG l))
        rw [List.length_drop] at this
        simp only [List.length_cons]
        omega
omit hS in
theorem skipT_len : ∀ (g : Nat) (l : List WD), (skipT g l).length ≤ l.length
  | 0, l => Nat.le_refl _
  | g + 1, l => by
    rw [skipT]
    split
    · have := skipT_len g (l.drop 4)
      rw [List.length_drop] at this
      omega
    · exact Nat.le_refl _
omit hS in
theorem listsT_len : ∀ (f : Nat) (l : List WD), (listsT f l).length ≤ l.length
  | 0, l => Nat.zero_le _
  | f + 1, l => by
    rw [listsT]
    split
    · exact Nat.zero_le _
    · rename_i hne
      have hp : 0 < l.length := List.length_pos_iff.2 hne
      split
      · have h1 := listsT_len f (skipT l.length (l.drop 3))
        have h2 := skipT_len l.length (l.drop 3)
        rw [List.length_drop] at h2
        rw [List.length_append, List.length_take]
        omega
      · have := listsT_len f (l.drop 1)
        rw [List.length_drop] at this
        rw [List.length_cons]
        omega
omit hS in
theorem sigF_len (ws : List WD) : (sigF ws).length ≤ ws.length := sigN_len ws _
omit hS in
theorem trimN_le (ws : List WD) : ∀ n, trimN ws n ≤ n
  | 0 => Nat.le_refl _
  | n + 1 => by
    have := trimN_le ws n
    rw [trimN]
    split <;> omega
set_option maxHeartbeats 2000000 in
theorem words_spec (lv : V) (ws : List WD) (h : H) (ha : Wds h lv ws) (hwl : ws.length < 2 ^ 27) : Pure S.cfg 50 [lv] h fun v h' => Wds h' v (wordsF ws) := by
  refine into Tryd.f50 _ Tryd.func50 (hS.ownD _ (by decide)) rfl rfl (by kernel_rfl) (by kernel_rfl) ?_
  simp +contextual (disch := first | (simp only [factsC, clsL, clsS, clsC, isPtrD]; done) | omega | (simp only [push_nx, put_nx, del_nx]; omega) | (refine Nat.le_antisymm ?_ ?_ <;> simp only [push_nx, put_nx, del_nx] <;> omega) | fail) only [wpy, factsC, wpb, cst, wpk, wpl, forall_const, implies_true, false_implies, Int.reduceLE, Int.reduceLT, Nat.reduceLeDiff, UInt8.reduceToNat, ↓reduceIte, Nat.reduceEqDiff, Nat.reduceAdd, reduceCtorEq, Int.reduceToNat, clsL, clsS, clsC, Tryd.f50]
  refine callF_pure (values_spec hS lv ws h ha hwl) ?_
  intro v1 h1 hx1 ha1
  have l1 := valF_len ws
  have i1 := ha1.cell
  simp +contextual (disch := first | (simp only [factsC, clsL, clsS, clsC, isPtrD]; done) | omega | (simp only [push_nx, put_nx, del_nx]; omega) | (refine Nat.le_antisymm ?_ ?_ <;> simp only [push_nx, put_nx, del_nx] <;> omega) | fail) only [wpy, factsC, wpb, cst, wpk, wpl, forall_const, implies_true, false_implies, Int.reduceLE, Int.reduceLT, Nat.reduceLeDiff, UInt8.reduceToNat, ↓reduceIte, Nat.reduceEqDiff, Nat.reduceAdd, reduceCtorEq, Int.reduceToNat, clsL, clsS, clsC, Tryd.f50, i1.1, i1.2]
  refine callF_pure (signed_spec hS v1 _ h1 (.of_acc ha1) (by omega)) ?_
  intro v2 h2 hx2 ha2
  have l2 := sigF_len (valF ws)
  have i2 := ha2.cell
  simp +contextual (disch := first | (simp only [factsC, clsL, clsS, clsC, isPtrD]; done) | omega | (simp only [push_nx, put_nx, del_nx]; omega) | (refine Nat.le_antisymm ?_ ?_ <;> simp only [push_nx, put_nx, del_nx] <;> omega) | fail) only [wpy, factsC, wpb, cst, wpk, wpl, forall_const, implies_true, false_implies, Int.reduceLE, Int.reduceLT, Nat.reduceLeDiff, UInt8.reduceToNat, ↓reduceIte, Nat.reduceEqDiff, Nat.reduceAdd, reduceCtorEq, Int.reduceToNat, clsL, clsS, clsC, Tryd.f50, i2.1, i2.2]
  refine callF_pure (rows_spec hS v2 _ h2 (.of_acc ha2) (by omega)) ?_
  intro v3 h3 hx3 ha3
  have l3 : (rowsF (sigF (valF ws))).length ≤ _ := rowsT_len _ _
  have i3 := ha3.cell
  simp +contextual (disch := first | (simp only [factsC, clsL, clsS, clsC, isPtrD]; done) | omega | (simp only [push_nx, put_nx, del_nx]; omega) | (refine Nat.le_antisymm ?_ ?_ <;> simp only [push_nx, put_nx, del_nx] <;> omega) | fail) only [wpy, factsC, wpb, cst, wpk, wpl, forall_const, implies_true, false_implies, Int.reduceLE, Int.reduceLT, Nat.reduceLeDiff, UInt8.reduceToNat, ↓reduceIte, Nat.reduceEqDiff, Nat.reduceAdd, reduceCtorEq, Int.reduceToNat, clsL, clsS, clsC, Tryd.f50, i3.1, i3.2]
  refine callF_pure (lists_spec hS v3 _ h3 (.of_acc ha3) (by omega)) ?_
  intro v4 h4 hx4 ha4
  have l4 : (listsF (rowsF (sigF (valF ws)))).length ≤ _ := listsT_len _ _
  have i4 := ha4.cell
  have hX : Ext h h4 := ((hx1.trans hx2).trans hx3).trans hx4
  have hw4 : Wds h4 v4 (listsF (rowsF (sigF (valF ws)))) := .of_acc ha4
  rw [wordsF]
  generalize listsF (rowsF (sigF (valF ws))) = us at *
  simp +contextual (disch := first | (simp only [factsC, clsL, clsS, clsC, isPtrD]; done) | omega | (simp only [push_nx, put_nx, del_nx]; omega) | (refine Nat.le_antisymm ?_ ?_ <;> simp only [push_nx, put_nx, del_nx] <;> omega) | fail) only [wpy, factsC, wpb, cst, wpk, wpl, forall_const, implies_true, false_implies, Int.reduceLE, Int.reduceLT, Nat.reduceLeDiff, UInt8.reduceToNat, ↓reduceIte, Nat.reduceEqDiff, Nat.reduceAdd, reduceCtorEq, Int.reduceToNat, clsL, clsS, clsC, Tryd.f50, i4.1, i4.2]
  refine run_loop (fun k env h' => ∃ (n : Nat) (l : V), k = n ∧ n ≤ us.length ∧ env 3 = l ∧ Ext h h' ∧ Wds h' l (us.take n) ∧ trimN us us.length = trimN us n) us.length ⟨us.length, v4, ?_⟩ ?_
  · simp +contextual (disch := first | (simp only [factsC, clsL, clsS, clsC, isPtrD]; done) | omega | (simp only [push_nx, put_nx, del_nx]; omega) | (refine Nat.le_antisymm ?_ ?_ <;> simp only [push_nx, put_nx, del_nx] <;> omega) | fail) only [wpy, factsC, wpb, cst, wpk, wpl, forall_const, implies_true, false_implies, Int.reduceLE, Int.reduceLT, Nat.reduceLeDiff, UInt8.reduceToNat, ↓reduceIte, Nat.reduceEqDiff, Nat.reduceAdd, reduceCtorEq, Int.reduceToNat, clsL, clsS, clsC]
    exact ⟨hX, by rw [List.take_length]; exact hw4⟩
  rintro k env h' ⟨n, l, hkn, hn, e3, hx, hl, ht⟩
  have a1 := hl.len
  have hc := hl.cell
  have hlen : (us.take n).length = n := by rw [List.length_take]; omega
  rw [hlen] at a1
  by_cases h0 : 0 < n
  · obtain ⟨n, rfl⟩ : ∃ q, n = q + 1 := ⟨n - 1, by omega⟩
    obtain ⟨b, o, m, c, fl, rfl, hm, hb, hg, hw1, hw2, hw3⟩ := hl.opened (by omega)
    have hgt : gw (us.take (n + 1)) n = gw us n := by
      unfold gw
      rw [List.getD_eq_getElem?_getD, List.getD_eq_getElem?_getD, List.getElem?_take, if_pos (by omega)]
    have u0 := hw1 n (by omega)
    have w0 := hw2 n (by omega)
    rw [hgt] at w0
    rw [hlen] at hm hw3
    rw [trimN] at ht
    have p0 : 0 < n + 1 := Nat.succ_pos n
    have p1 : n < n + 1 := Nat.lt_succ_self n
    simp +contextual (disch := first | (simp only [factsC, clsL, clsS, clsC, isPtrD]; done) | omega | (simp only [push_nx, put_nx, del_nx]; omega) | (refine Nat.le_antisymm ?_ ?_ <;> simp only [push_nx, put_nx, del_nx] <;> omega) | fail) only [wpy, factsC, wpb, cst, wpk, wpl, forall_const, implies_true, false_implies, Int.reduceLE, Int.reduceLT, Nat.reduceLeDiff, UInt8.reduceToNat, ↓reduceIte, Nat.reduceEqDiff, Nat.reduceAdd, reduceCtorEq, Int.reduceToNat, clsL, clsS, clsC, Tryd.f50, e3, a1, hlen, hg, u0, w0, Nat.add_sub_cancel, p0, p1]
    refine callF_pure (dsign_new hS (gw us n) [[59]] 1 _ 9 false _ rfl rfl (by decide)) ?_
    rintro v6 h6 hx6 rfl
    have hX6 : Ext h' h6 := ((Ext.refl h').push _).trans hx6
    have hg6 : h6.get b = some (.cells c 36 fl) := by rw [hX6.2 b hb]; exact hg
    by_cases c0 : isS (gw us n) [[59]]
    · rw [if_pos c0] at ht
      simp +contextual (disch := first | (simp only [factsC, clsL, clsS, clsC, isPtrD]; done) | omega | (simp only [push_nx, put_nx, del_nx]; omega) | (refine Nat.le_antisymm ?_ ?_ <;> simp only [push_nx, put_nx, del_nx] <;> omega) | fail) only [wpy, factsC, wpb, cst, wpk, wpl, forall_const, implies_true, false_implies, Int.reduceLE, Int.reduceLT, Nat.reduceLeDiff, UInt8.reduceToNat, ↓reduceIte, Nat.reduceEqDiff, Nat.reduceAdd, reduceCtorEq, Int.reduceToNat, clsL, clsS, clsC, Tryd.f50, e3, a1, hlen, Nat.add_sub_cancel, p0, p1, c0]
      refine slice_row (e := 36) (sz := 3) (b := b) (o := o) (n := n + 1) (m := m) (l := 0) (hh := n) (mm := m) (by kernel_rfl) D1.sz36 (by simp +contextual (disch := first | (simp only [factsC, clsL, clsS, clsC, isPtrD]; done) | omega | (simp only [push_nx, put_nx, del_nx]; omega) | (refine Nat.le_antisymm ?_ ?_ <;> simp only [push_nx, put_nx, del_nx] <;> omega) | fail) only [wpy, factsC, wpb, cst, wpk, wpl, forall_const, implies_true, false_implies, Int.reduceLE, Int.reduceLT, Nat.reduceLeDiff, UInt8.reduceToNat, ↓reduceIte, Nat.reduceEqDiff, Nat.reduceAdd, reduceCtorEq, Int.reduceToNat, clsL, clsS, clsC]) (by rw [hg6]; rfl) (fun _ => rfl) (by simp +contextual (disch := first | (simp only [factsC, clsL, clsS, clsC, isPtrD]; done) | omega | (simp only [push_nx, put_nx, del_nx]; omega) | (refine Nat.le_antisymm ?_ ?_ <;> simp only [push_nx, put_nx, del_nx] <;> omega) | fail) only [wpy, factsC, wpb, cst, wpk, wpl, forall_const, implies_true, false_implies, Int.reduceLE, Int.reduceLT, Nat.reduceLeDiff, UInt8.reduceToNat, ↓reduceIte, Nat.reduceEqDiff, Nat.reduceAdd, reduceCtorEq, Int.reduceToNat, clsL, clsS, clsC]; exact bounds_hi (by omega)) (by omega) ?_
      rw [Nat.zero_mul, Nat.add_zero, Nat.sub_zero, Nat.sub_zero]
      simp +contextual (disch := first | (simp only [factsC, clsL, clsS, clsC, isPtrD]; done) | omega | (simp only [push_nx, put_nx, del_nx]; omega) | (refine Nat.le_antisymm ?_ ?_ <;> simp only [push_nx, put_nx, del_nx] <;> omega) | fail) only [wpy, factsC, wpb, cst, wpk, wpl, forall_const, implies_true, false_implies, Int.reduceLE, Int.reduceLT, Nat.reduceLeDiff, UInt8.reduceToNat, ↓reduceIte, Nat.reduceEqDiff, Nat.reduceAdd, reduceCtorEq, Int.reduceToNat, clsL, clsS, clsC, Tryd.f50, e3]
      refine ⟨_, ?_, n, _, rfl, by omega, rfl, hx.trans hX6, ?_, ht⟩
      · omega
      · have hln : (us.take n).length = n := by rw [List.length_take]; omega
        have hq := row_sub (i := 0) (k := n) (ws := us.take (n + 1)) (c := c) (o := o) (by rw [hlen]; exact hw3) (by omega)
        rw [Nat.zero_mul, Nat.add_zero, List.drop_zero, List.take_take, Nat.min_eq_left (by omega)] at hq
        refine .inr ⟨b, o, m, c, fl, ?_, by omega, Nat.lt_of_lt_of_le hb hX6.1, hg6, ?_, by rw [hln]; exact hq⟩
        · rw [hln]
        · have := hw1 n (by omega)
          rw [hln]
          omega
    · rw [if_neg c0] at ht
      simp +contextual (disch := first | (simp only [factsC, clsL, clsS, clsC, isPtrD]; done) | omega | (simp only [push_nx, put_nx, del_nx]; omega) | (refine Nat.le_antisymm ?_ ?_ <;> simp only [push_nx, put_nx, del_nx] <;> omega) | fail) only [wpy, factsC, wpb, cst, wpk, wpl, forall_const, implies_true, false_implies, Int.reduceLE, Int.reduceLT, Nat.reduceLeDiff, UInt8.reduceToNat, ↓reduceIte, Nat.reduceEqDiff, Nat.reduceAdd, reduceCtorEq, Int.reduceToNat, clsL, clsS, clsC, Tryd.f50, e3, a1, hlen, Nat.add_sub_cancel, p0, p1, c0]
      rw [hlen] at hl
      exact ⟨hx.trans hX6, by rw [ht]; exact hl.ext hX6⟩
  · obtain rfl : n = 0 := by omega
    simp +contextual (disch := first | (simp only [factsC, clsL, clsS, clsC, isPtrD]; done) | omega | (simp only [push_nx, put_nx, del_nx]; omega) | (refine Nat.le_antisymm ?_ ?_ <;> simp only [push_nx, put_nx, del_nx] <;> omega) | fail) only [wpy, factsC, wpb, cst, wpk, wpl, forall_const, implies_true, false_implies, Int.reduceLE, Int.reduceLT, Nat.reduceLeDiff, UInt8.reduceToNat, ↓reduceIte, Nat.reduceEqDiff, Nat.reduceAdd, reduceCtorEq, Int.reduceToNat, clsL, clsS, clsC, Tryd.f50, e3, a1, Nat.lt_irrefl]
    exact ⟨hx, by rw [ht]; exact hl⟩
end
end Go.Proofs.YtkibhdbmamfjcaaDoor

/-
  scan.Plain and digest.Text: the text of the words that are left.
-/
set_option linter.unusedSimpArgs false
set_option linter.unusedVariables false
set_option linter.unusedSectionVars false
set_option linter.defProp false
set_option maxRecDepth 10000
namespace Go.Proofs.YtkibhdbmamfjcaaDoor
open Go.Proofs Go.Lx Go.Wx Go.IntWalk
noncomputable section

/-- a text of some length -/
def Gw (B : Nat) (w : WD) : Prop := Bytes w.text ∧ w.text.length ≤ B
def Gd (B N : Nat) (ws : List WD) : Prop := ws.length ≤ N ∧ ∀ w ∈ ws, Gw B w
theorem gw_snoc {B : Nat} {acc : List WD} {w : WD} (h : ∀ x ∈ acc, Gw B x) (hw : Gw B w) : ∀ x ∈ acc ++ [w], Gw B x := by
  intro x hx
  rw [List.mem_append, List.mem_singleton] at hx
  rcases hx with hx | rfl
  · exact h x hx
  · exact hw
theorem allR_good {s : List Nat} (hb : Bytes s) : ∀ (f p : Nat) (acc ws : List WD), p ≤ s.length → acc.length ≤ p → (∀ w ∈ acc, Gw s.length w) → allR s f p acc = .inl ws → Gd s.length s.length ws
  | 0, p, acc, ws, hp, ha, hg, h => by
    unfold allR at h
    cases h
    exact ⟨by omega, hg⟩
  | f + 1, p, acc, ws, hp, ha, hg, h => by
    unfold allR at h
    split at h
    · rename_i hlt
      have hd0 : s.drop p ≠ [] := fun q => by have := congrArg List.length q; simp at this; omega
      have hple := passF_le hd0
      rw [List.length_drop] at hple
      split at h
      · cases h
      · split at h
        · exact allR_good hb f _ acc ws (by omega) (by omega) hg h
        · split at h
          · cases h
          · rename_i he
            have hok := wordD_ok hd0 (hb.drop p)
            have hpos := wordD_pos (s := s.drop p) (by omega)
            have h1 := hok.2.1
            have h2 := hok.2.2
            rw [List.length_drop] at h1 h2
            refine allR_good hb f _ _ ws (by omega) (by rw [List.length_append]; simp; omega) (gw_snoc hg ⟨hok.1, by show (wordD (s.drop p)).text.length ≤ _; omega⟩) h
    · cases h
      exact ⟨by omega, hg⟩
theorem allF_good {s : List Nat} {ws : List WD} (hb : Bytes s) (h : allF s = .inl ws) : Gd s.length s.length ws := allR_good hb _ 0 [] ws (Nat.zero_le _) (Nat.zero_le _) (fun w hw => by cases hw) h

section
variable {P : WD → Prop} (h0 : ∀ k a, P ⟨k, [], a⟩)
include h0
theorem gw_all {l : List WD} (h : ∀ w ∈ l, P w) (i : Nat) : P (gw l i) := by
  by_cases hi : i < l.length
  · rw [gw_eq hi]; exact h _ (List.getElem_mem hi)
  · unfold gw
    rw [List.getD_eq_getElem?_getD, List.getElem?_eq_none (by omega)]
    exact h0 _ _
theorem valF_all {l : List WD} (h : ∀ w ∈ l, P w) : ∀ w ∈ valF l, P w := by
  intro w hw
  obtain ⟨x, hx, hq⟩ := List.mem_flatMap.1 hw
  unfold val1 at hq
  split at hq
  · cases hq
  · split at hq
    · rw [List.mem_singleton] at hq; subst hq; exact h0 _ _
    · rw [List.mem_singleton] at hq; subst hq; exact h _ hx
theorem sigF_all {l : List WD} (h : ∀ w ∈ l, P w) : ∀ w ∈ sigF l, P w := by
  intro w hw
  obtain ⟨x, hx, hq⟩ := List.mem_flatMap.1 hw
  unfold sg1 at hq
  split at hq
  · cases hq
  · rw [List.mem_singleton] at hq; subst hq; exact gw_all h0 h _
theorem rowsT_all : ∀ (f : Nat) (l : List WD), (∀ w ∈ l, P w) → ∀ w ∈ rowsT f l, P w
  | 0, l, h => fun w hw => by cases hw
  | f + 1, l, h => fun w hw => by
    have hd : ∀ n, ∀ w ∈ l.drop n, P w := fun n w hw => h w (List.mem_of_mem_drop hw)
    rw [rowsT] at hw
    split at hw
    · cases hw
    · split at hw
      · rcases List.mem_cons.1 hw with rfl | hw
        · exact gw_all h0 h _
        · exact rowsT_all f _ (hd _) w hw
      · rcases List.mem_cons.1 hw with rfl | hw
        · exact gw_all h0 h _
        rcases List.mem_cons.1 hw with rfl | hw
        · exact gw_all h0 h _
        rcases List.mem_cons.1 hw with rfl | hw
        · exact gw_all h0 h _
        · exact rowsT_all f _ (hd _) w hw
omit h0 in
theorem skipT_all : ∀ (g : Nat) (l : List WD), (∀ w ∈ l, P w) → ∀ w ∈ skipT g l, P w
  | 0, l, h => h
  | g + 1, l, h => by
    rw [skipT]
    split
    · exact skipT_all g _ fun w hw => h w (List.mem_of_mem_drop hw)
    · exact h
theorem listsT_all : ∀ (f : Nat) (l : List WD), (∀ w ∈ l, P w) → ∀ w ∈ listsT f l, P w
  | 0, l, h => fun w hw => by cases hw
  | f + 1, l, h => fun w hw => by
    have hd : ∀ n, ∀ w ∈ l.drop n, P w := fun n w hw => h w (List.mem_of_mem_drop hw)
    rw [listsT] at hw
    split at hw
    · cases hw
    · split at hw
      · rcases List.mem_append.1 hw with hw | hw
        · exact h w (List.mem_of_mem_take hw)
        · exact listsT_all f _ (skipT_all _ _ (hd _)) w hw
      · rcases List.mem_cons.1 hw with rfl | hw
        · exact gw_all h0 h _
        · exact listsT_all f _ (hd _) w hw
theorem wordsF_all {l : List WD} (h : ∀ w ∈ l, P w) : ∀ w ∈ wordsF l, P w := by
  intro w hw
  exact listsT_all h0 _ _ (rowsT_all h0 _ _ (sigF_all h0 (valF_all h0 h))) w (List.mem_of_mem_take hw)
end
theorem wordsF_len (ws : List WD) : (wordsF ws).length ≤ ws.length := by
  have l1 := valF_len ws
  have l2 := sigF_len (valF ws)
  have l3 : (rowsF (sigF (valF ws))).length ≤ _ := rowsT_len _ _
  have l4 : (listsF (rowsF (sigF (valF ws)))).length ≤ _ := listsT_len _ _
  rw [wordsF, List.length_take]
  omega
theorem wordsF_good {B N : Nat} {ws : List WD} (h : Gd B N ws) : Gd B N (wordsF ws) := ⟨Nat.le_trans (wordsF_len ws) h.1, wordsF_all (P := Gw B) (fun k a => ⟨(by intro b hb; cases hb), Nat.zero_le _⟩) h.2⟩
theorem allR_err {s : List Nat} : ∀ (f p : Nat) (acc : List WD) (e q : Nat), allR s f p acc = .inr (e, q) → e ≠ 0
  | 0, p, acc, e, q, h => by cases h
  | f + 1, p, acc, e, q, h => by
    unfold allR at h
    split at h
    · split at h
      · rename_i h1; cases h; exact h1
      · split at h
        · exact allR_err f _ acc e q h
        · split at h
          · rename_i h1; cases h; exact h1
          · exact allR_err f _ _ e q h
    · cases h
/-- what digest.Text gives: a text, a fault -/
structure TF where
  t : List Nat
  e : Int
  p : Int
def TF.v (x : TF) : V := .tuple [.str x.t, .agg [.int .i64 x.e, .int .i64 x.p]]
theorem bytes_app {a b : List Nat} (ha : Bytes a) (hb : Bytes b) : Bytes (a ++ b) := by
  intro x hx
  rw [List.mem_append] at hx
  rcases hx with hx | hx
  · exact ha x hx
  · exact hb x hx
theorem bytes_repl (a b c : List Nat) : Bytes (replF a b c) := toN_bytes _
theorem bytes_join (ts : List (List Nat)) (sep : List Nat) : Bytes (joinF ts sep) := toN_bytes _
def tickF (s : List Nat) : List Nat := [96] ++ replF s [96] [96, 96] ++ [96]
def quoteF (s : List Nat) : List Nat := [39] ++ replF (replF s [92] [92, 92]) [39] [39, 39] ++ [39]
theorem tickF_len (s : List Nat) : (tickF s).length ≤ 3 * s.length + 4 := by
  have := replF_len s [96] [96, 96]
  simp only [tickF, List.length_append, List.length_cons, List.length_nil] at this ⊢
  omega
theorem quoteF_len (s : List Nat) : (quoteF s).length ≤ 9 * s.length + 16 := by
  have h1 := replF_len s [92] [92, 92]
  have h2 := replF_len (replF s [92] [92, 92]) [39] [39, 39]
  simp only [quoteF, List.length_append, List.length_cons, List.length_nil] at h1 h2 ⊢
  omega
theorem bytes_lit {l : List Nat} (h : (l.all fun b => Nat.blt b 256) = true) : Bytes l := fun b hb => blt_iff.1 (List.all_eq_true.1 h b hb)
theorem bytes_tick (s : List Nat) : Bytes (tickF s) := bytes_app (bytes_app (bytes_lit rfl) (bytes_repl _ _ _)) (bytes_lit rfl)
theorem bytes_quote (s : List Nat) : Bytes (quoteF s) := bytes_app (bytes_app (bytes_lit rfl) (bytes_repl _ _ _)) (bytes_lit rfl)
theorem nice_joinM (vs : List V) : Nice (joinM vs) := by
  unfold joinM
  repeat' (first | exact Nice.ret _ | exact Nice.err _ | exact Nice.ld _ _ _ | refine Nice.cond ?_ ?_ | refine Nice.bnd ?_ (fun _ => ?_) | split)
theorem famTs_of : ∀ (ts : List (List Nat)), famTs (ts.map V.str) = some ts
  | [] => rfl
  | t :: ts => by
    show (famTs (ts.map V.str)).map (t :: ·) = _
    rw [famTs_of ts]
    rfl

variable {S : Set0} (hS : StdD S)
include hS
theorem repl_exact (a b c : List Nat) (h : H) (ha : a.length < 2 ^ 30) (hb : 0 < b.length) (hc : c.length < 10) : Exact S.cfg 49 [.str a, .str b, .str c] h (.str (replF a b c)) := by
  refine sum_exact hS.repl ?_
  have h1 : Nat.blt a.length 4294967281 = true := blt_iff.2 (by omega)
  have h2 : Nat.blt 0 b.length = true := blt_iff.2 hb
  have h3 : Nat.ble (a.length + (a.length + 1) * c.length) 140737488355328 = true := ble_iff.2 (by
    have := Nat.mul_le_mul_left (a.length + 1) (Nat.le_of_lt hc)
    omega)
  show (bif Nat.blt a.length 4294967281 && (Nat.blt 0 b.length && Nat.ble (a.length + (a.length + 1) * c.length) 140737488355328) then some (V.str (replF a b c)) else none) = _
  rw [h1, h2, h3]
  rfl
theorem join_exact (l : V) (ts : List (List Nat)) (sep : List Nat) (n0 B : Nat) (h : H) (ha : Wx.Acc n0 h l (ts.map V.str) 9 1) (hn : ts.length ≤ 100000) (hB : ∀ t ∈ ts, t.length ≤ B) (hB2 : B ≤ 100000) (hsep : sep.length < 10) : Exact S.cfg 65 [l, .str sep] h (.str (joinF ts sep)) := by
  rcases ha with ⟨rfl, hw⟩ | ⟨b, k, _, hb2, rfl, _, hg, hk⟩
  · have : ts = [] := List.map_eq_nil_iff.1 hw
    subst this
    exact callW_sum (s := h.st) hS.join (nice_joinM _) rfl LogOk_nil ⟨rfl, rfl⟩
  · rw [List.length_map, Nat.mul_one] at hk
    subst hk
    refine callW_sum (s := ⟨h.heap, h.nx, [.rd b 0 ts.length]⟩) hS.join (nice_joinM _) ?_ ?_ ⟨rfl, rfl⟩
    · have hg' : h.heap.get b = some (.cells (ts.map V.str) 9 true) := hg
      show (bif Nat.ble ts.length 1000000 then bnd (ld b 0 ts.length) fun cs => (match famTs cs with
        | some ts => bif Nat.ble (joinF ts sep).length 140737488355328 then Lx.ret (V.str (joinF ts sep)) else err "join"
        | none => err "join") else err "join") ⟨h.heap, h.nx, []⟩ = _
      rw [ble_iff.2 (by omega), cond_true]
      unfold Lx.bnd Lx.ld
      have hle : Nat.ble (0 + ts.length) (ts.map V.str).length = true := by simp
      have hsub : sub (ts.map V.str) 0 ts.length = ts.map V.str := by rw [sub, List.drop_zero, List.take_of_length_le (by simp)]
      have hj : Nat.ble (joinF ts sep).length 140737488355328 = true := ble_iff.2 (by
        have h1 := joinF_len (sep := sep) hB
        have h2 : ts.length * (B + sep.length) ≤ 100000 * 100010 := Nat.mul_le_mul hn (by omega)
        omega)
      simp only [hg', hle, cond_true, hsub, famTs_of, hj]
      rfl
    · rw [LogOk_cons_rd]
      exact LogOk_nil
theorem tick_spec (s : List Nat) (h : H) (hs : s.length < 2 ^ 20) : Exact S.cfg 64 [.str s] h (.str (tickF s)) := by
  refine into Tryd.f64 _ Tryd.func64 (hS.ownD _ (by decide)) rfl rfl (by kernel_rfl) (by kernel_rfl) ?_
  simp +contextual (disch := first | (simp only [factsC, clsL, clsS, clsC, isPtrD]; done) | omega | (simp only [push_nx, put_nx, del_nx]; omega) | (refine Nat.le_antisymm ?_ ?_ <;> simp only [push_nx, put_nx, del_nx] <;> omega) | fail) only [wpy, factsC, wpb, cst, wpk, wpl, forall_const, implies_true, false_implies, Int.reduceLE, Int.reduceLT, Nat.reduceLeDiff, UInt8.reduceToNat, ↓reduceIte, Nat.reduceEqDiff, Nat.reduceAdd, reduceCtorEq, Int.reduceToNat, clsL, clsS, clsC, Tryd.f64]
  refine callF_exact (repl_exact hS s [96] [96, 96] _ (by omega) (by decide) (by decide)) ?_
  have h1 := replF_len s [96] [96, 96]
  simp only [List.length_cons, List.length_nil] at h1
  have h2 : (replF s [96] [96, 96]).length < 2 ^ 22 := by omega
  have h3 : 1 + (replF s [96] [96, 96]).length ≤ 9223372036854775807 := by omega
  have h4 : (replF s [96] [96, 96]).length + 1 + 1 ≤ 9223372036854775807 := by omega
  simp +contextual (disch := first | (simp only [factsC, clsL, clsS, clsC, isPtrD]; done) | omega | (simp only [push_nx, put_nx, del_nx]; omega) | (refine Nat.le_antisymm ?_ ?_ <;> simp only [push_nx, put_nx, del_nx] <;> omega) | fail) only [wpy, factsC, wpb, cst, wpk, wpl, forall_const, implies_true, false_implies, Int.reduceLE, Int.reduceLT, Nat.reduceLeDiff, UInt8.reduceToNat, ↓reduceIte, Nat.reduceEqDiff, Nat.reduceAdd, reduceCtorEq, Int.reduceToNat, clsL, clsS, clsC, Tryd.f64, h3, h4]
  first | done | rfl | exact ⟨rfl, rfl⟩ | trace_state
theorem quote_spec (s : List Nat) (h : H) (hs : s.length < 2 ^ 20) : Exact S.cfg 20 [.str s] h (.str (quoteF s)) := by
  refine into Tryd.f20 _ Tryd.func20 (hS.ownD _ (by decide)) rfl rfl (by kernel_rfl) (by kernel_rfl) ?_
  simp +contextual (disch := first | (simp only [factsC, clsL, clsS, clsC, isPtrD]; done) | omega | (simp only [push_nx, put_nx, del_nx]; omega) | (refine Nat.le_antisymm ?_ ?_ <;> simp only [push_nx, put_nx, del_nx] <;> omega) | fail) only [wpy, factsC, wpb, cst, wpk, wpl, forall_const, implies_true, false_implies, Int.reduceLE, Int.reduceLT, Nat.reduceLeDiff, UInt8.reduceToNat, ↓reduceIte, Nat.reduceEqDiff, Nat.reduceAdd, reduceCtorEq, Int.reduceToNat, clsL, clsS, clsC, Tryd.f20]
  refine callF_exact (repl_exact hS s [92] [92, 92] _ (by omega) (by decide) (by decide)) ?_
  have h1 := replF_len s [92] [92, 92]
  simp only [List.length_cons, List.length_nil] at h1
  have h2 : (replF s [92] [92, 92]).length < 2 ^ 22 := by omega
  simp +contextual (disch := first | (simp only [factsC, clsL, clsS, clsC, isPtrD]; done) | omega | (simp only [push_nx, put_nx, del_nx]; omega) | (refine Nat.le_antisymm ?_ ?_ <;> simp only [push_nx, put_nx, del_nx] <;> omega) | fail) only [wpy, factsC, wpb, cst, wpk, wpl, forall_const, implies_true, false_implies, Int.reduceLE, Int.reduceLT, Nat.reduceLeDiff, UInt8.reduceToNat, ↓reduceIte, Nat.reduceEqDiff, Nat.reduceAdd, reduceCtorEq, Int.reduceToNat, clsL, clsS, clsC, Tryd.f20]
  refine callF_exact (repl_exact hS _ [39] [39, 39] _ (by omega) (by decide) (by decide)) ?_
  have h3 := replF_len (replF s [92] [92, 92]) [39] [39, 39]
  simp only [List.length_cons, List.length_nil] at h3
  have h4 : (replF (replF s [92] [92, 92]) [39] [39, 39]).length < 2 ^ 24 := by omega
  have h5 : 1 + (replF (replF s [92] [92, 92]) [39] [39, 39]).length ≤ 9223372036854775807 := by omega
  have h6 : (replF (replF s [92] [92, 92]) [39] [39, 39]).length + 1 + 1 ≤ 9223372036854775807 := by omega
  simp +contextual (disch := first | (simp only [factsC, clsL, clsS, clsC, isPtrD]; done) | omega | (simp only [push_nx, put_nx, del_nx]; omega) | (refine Nat.le_antisymm ?_ ?_ <;> simp only [push_nx, put_nx, del_nx] <;> omega) | fail) only [wpy, factsC, wpb, cst, wpk, wpl, forall_const, implies_true, false_implies, Int.reduceLE, Int.reduceLT, Nat.reduceLeDiff, UInt8.reduceToNat, ↓reduceIte, Nat.reduceEqDiff, Nat.reduceAdd, reduceCtorEq, Int.reduceToNat, clsL, clsS, clsC, Tryd.f20, h5, h6]
  first | done | rfl | exact ⟨rfl, rfl⟩ | trace_state
/-- a word's text as it is told -/
def tellF (w : WD) : List Nat := if w.kind = 2 then tickF w.text else if w.kind = 3 then quoteF w.text else if w.kind = 6 then [64] ++ tickF w.text else if w.kind = 7 then [64, 64] ++ w.text else if w.kind = 8 then [63] else w.text
/-- the digest text, or the fault -/
def digF (s : List Nat) : TF := if 1048576 < s.length then ⟨[], 3, -1⟩ else match allF s with
  | .inl ws => ⟨joinF ((wordsF ws).map tellF) [32], 0, 0⟩
  | .inr (e, p) => ⟨[], e, p⟩
omit hS in
theorem tellF_ok {B : Nat} {w : WD} (h : Gw B w) : Bytes (tellF w) ∧ (tellF w).length ≤ 9 * B + 20 := by
  have h1 := tickF_len w.text
  have h2 := quoteF_len w.text
  have h3 := h.2
  unfold tellF
  split
  · exact ⟨bytes_tick _, by omega⟩
  · split
    · exact ⟨bytes_quote _, by omega⟩
    · split
      · exact ⟨bytes_app (bytes_lit rfl) (bytes_tick _), by rw [List.length_append]; simp; omega⟩
      · split
        · exact ⟨bytes_app (bytes_lit rfl) h.1, by rw [List.length_append]; simp; omega⟩
        · split
          · exact ⟨bytes_lit rfl, by simp⟩
          · exact ⟨h.1, by omega⟩
omit hS in
/-- a text is appended -/
theorem app_text {env : Env} {s x : Operand} {n0 : Nat} {h : H} {l : V} {ts : List (List Nat)} (t : List Nat) {Ok : Nat → Prop} {K : V → H → Fp → Prop} (hsv : evalE env s = l) (hx : evalE env x = .slice h.nx 0 1 1) (ha : Wx.Acc n0 h l (ts.map V.str) 9 1) (hroom : ts.length < 2 ^ 28) (hOk : ∀ k, n0 ≤ k → Ok k) (hn0 : n0 ≤ h.nx)
    (hK : ∀ v h' L, Wx.Acc n0 h' v ((ts ++ [t]).map V.str) 9 1 → h.nx < h'.nx → (∀ k, k < n0 → h'.get k = h.get k) → K v h' (.lg L)) : opW S.cfg Ok (.call ⟨.builtin .append, #[s, x], #[29, 29]⟩) env (h.push (.cells [.str t] 9 false)) K := by
  refine append_new (sv := l) (n0 := n0) hsv D1.ap29 ⟨.slice 9, by kernel_rfl, rfl⟩ ha hx (n := 1) (by decide) rfl rfl ?_ (by decide) hOk hn0 ?_
  · rw [List.length_map]
    show _ + 1 ≤ _
    omega
  · intro v h' L ha' hn' _ hf' _
    exact hK v h' L (by rw [List.map_append]; exact ha') hn' hf'
set_option maxHeartbeats 2000000 in
theorem plain_spec (B N : Nat) (hN : N ≤ 10000) (hB : B ≤ 10000) (lv : V) (ws : List WD) (h : H) (ha : Wds h lv ws) (hg : Gd B N ws) : Pure S.cfg 35 [lv] h fun v _ => v = .str (joinF (ws.map tellF) [32]) := by
  refine into Tryd.f35 _ Tryd.func35 (hS.ownD _ (by decide)) rfl rfl (by kernel_rfl) (by kernel_rfl) ?_
  have a1 := ha.len
  have hwl := hg.1
  simp +contextual (disch := first | (simp only [factsC, clsL, clsS, clsC, isPtrD]; done) | omega | (simp only [push_nx, put_nx, del_nx]; omega) | (refine Nat.le_antisymm ?_ ?_ <;> simp only [push_nx, put_nx, del_nx] <;> omega) | fail) only [wpy, factsC, wpb, cst, wpk, wpl, forall_const, implies_true, false_implies, Int.reduceLE, Int.reduceLT, Nat.reduceLeDiff, UInt8.reduceToNat, ↓reduceIte, Nat.reduceEqDiff, Nat.reduceAdd, reduceCtorEq, Int.reduceToNat, clsL, clsS, clsC, Tryd.f35, a1]
  refine run_loop (fun k env h' => ∃ (i : Nat) (l : V), k = ws.length - i ∧ i ≤ ws.length ∧ env 3 = l ∧ env 7 = lv ∧ env 8 = .int .i64 ws.length ∧ env 9 = .int .i64 i ∧ Ext h h' ∧ Wx.Acc h.nx h' l (((ws.take i).map tellF).map V.str) 9 1) ws.length ⟨0, .nilslice, ?_⟩ ?_
  · simp +contextual (disch := first | (simp only [factsC, clsL, clsS, clsC, isPtrD]; done) | omega | (simp only [push_nx, put_nx, del_nx]; omega) | (refine Nat.le_antisymm ?_ ?_ <;> simp only [push_nx, put_nx, del_nx] <;> omega) | fail) only [wpy, factsC, wpb, cst, wpk, wpl, forall_const, implies_true, false_implies, Int.reduceLE, Int.reduceLT, Nat.reduceLeDiff, UInt8.reduceToNat, ↓reduceIte, Nat.reduceEqDiff, Nat.reduceAdd, reduceCtorEq, Int.reduceToNat, clsL, clsS, clsC]
    exact ⟨by simp, Ext.refl _, .inl ⟨rfl, rfl⟩⟩
  rintro k env h' ⟨i, l, rfl, hi, e3, e7, e8, e9, hx, hl⟩
  have hxn := hx.1
  have hc1 := hl.cell.1
  have hc2 := hl.cell.2
  by_cases hi2 : i < ws.length
  · obtain ⟨b, o, mc, c, fl, rfl, hbn, hgb, w0, w1⟩ := (ha.ext hx).get hi2
    have hgi : Gw B (gw ws i) := by rw [gw_eq hi2]; exact hg.2 _ (List.getElem_mem hi2)
    have hti : (gw ws i).text.length < 2 ^ 20 := by have := hgi.2; omega
    rw [wcell] at w1
    have hbn' : ¬ b = h'.nx := by omega
    have hst : (ws.take (i + 1)).map tellF = (ws.take i).map tellF ++ [tellF (gw ws i)] := by rw [gw_eq hi2, List.take_succ_eq_append_getElem hi2, List.map_append]; rfl
    have hl2 : ∀ o1 o2 : Ob, Wx.Acc h.nx ((h'.push o1).put h'.nx o2) l (((ws.take i).map tellF).map V.str) 9 1 := fun _ _ => hl.ext (Ext.new _ _ _)
    have hroom : ((ws.take i).map tellF).length < 2 ^ 28 := by rw [List.length_map, List.length_take]; omega
    have hend : ∀ hk : H, Ext h' hk → ∀ v h4, Wx.Acc h.nx h4 v (((ws.take i).map tellF ++ [tellF (gw ws i)]).map V.str) 9 1 → hk.nx < h4.nx → (∀ k, k < h.nx → h4.get k = hk.get k) → ∃ m', m' < ws.length - i ∧ ∃ (i' : Nat) (l : V), m' = ws.length - i' ∧ i' ≤ ws.length ∧ v = l ∧ i + 1 = i' ∧ Ext h h4 ∧ Wx.Acc h.nx h4 l (((ws.take i').map tellF).map V.str) 9 1 := fun hk hXk v h4 ha4 hn4 hf4 => ⟨_, by omega, i + 1, v, rfl, by omega, rfl, rfl, ⟨by have := hXk.1; omega, fun k hk => by rw [hf4 k hk, hXk.2 k (by omega), hx.2 k hk]⟩, by rw [hst]; exact ha4⟩
    by_cases c2 : (gw ws i).kind = 2
    · have ht : tellF (gw ws i) = tickF (gw ws i).text := by rw [tellF, if_pos c2]
      simp +contextual (disch := first | (simp only [factsC, clsL, clsS, clsC, isPtrD]; done) | omega | (simp only [push_nx, put_nx, del_nx]; omega) | (refine Nat.le_antisymm ?_ ?_ <;> simp only [push_nx, put_nx, del_nx] <;> omega) | exact dok (by kernel_rfl)) only [draw_calm, draw_calmA, wpy, factsC, wpb, cst, wpk, wpl, forall_const, implies_true, false_implies, Int.reduceLE, Int.reduceLT, Nat.reduceLeDiff, UInt8.reduceToNat, ↓reduceIte, Nat.reduceEqDiff, Nat.reduceAdd, reduceCtorEq, Int.reduceToNat, clsL, clsS, clsC, Tryd.f35, e3, e7, e8, e9, hi2, hgb, hbn', w0, w1, c2]
      refine ⟨.inr hxn, callF_exact (tick_spec hS _ _ hti) ?_⟩
      simp +contextual (disch := first | (simp only [factsC, clsL, clsS, clsC, isPtrD]; done) | omega | (simp only [push_nx, put_nx, del_nx]; omega) | (refine Nat.le_antisymm ?_ ?_ <;> simp only [push_nx, put_nx, del_nx] <;> omega) | fail) only [wpy, factsC, wpb, cst, wpk, wpl, forall_const, implies_true, false_implies, Int.reduceLE, Int.reduceLT, Nat.reduceLeDiff, UInt8.reduceToNat, ↓reduceIte, Nat.reduceEqDiff, Nat.reduceAdd, reduceCtorEq, Int.reduceToNat, clsL, clsS, clsC, Tryd.f35, e3, e7, e8, e9, hi2, hgb, hbn', w0, w1, c2]
      refine app_text (n0 := h.nx) (l := l) (ts := (ws.take i).map tellF) _ (by simp +contextual (disch := first | (simp only [factsC, clsL, clsS, clsC, isPtrD]; done) | omega | (simp only [push_nx, put_nx, del_nx]; omega) | (refine Nat.le_antisymm ?_ ?_ <;> simp only [push_nx, put_nx, del_nx] <;> omega) | fail) only [wpy, factsC, wpb, cst, wpk, wpl, forall_const, implies_true, false_implies, Int.reduceLE, Int.reduceLT, Nat.reduceLeDiff, UInt8.reduceToNat, ↓reduceIte, Nat.reduceEqDiff, Nat.reduceAdd, reduceCtorEq, Int.reduceToNat, clsL, clsS, clsC]) (by simp +contextual (disch := first | (simp only [factsC, clsL, clsS, clsC, isPtrD]; done) | omega | (simp only [push_nx, put_nx, del_nx]; omega) | (refine Nat.le_antisymm ?_ ?_ <;> simp only [push_nx, put_nx, del_nx] <;> omega) | fail) only [wpy, factsC, wpb, cst, wpk, wpl, forall_const, implies_true, false_implies, Int.reduceLE, Int.reduceLT, Nat.reduceLeDiff, UInt8.reduceToNat, ↓reduceIte, Nat.reduceEqDiff, Nat.reduceAdd, reduceCtorEq, Int.reduceToNat, clsL, clsS, clsC]) (hl2 _ _) hroom (fun k hk => by rw [fresh_def]; exact .inl hk) (by show h.nx ≤ h'.nx + 1; omega) ?_
      intro v h4 L ha4 hn4 hf4
      rw [← ht] at ha4
      have hv1 := ha4.cell.1
      have hv2 := ha4.cell.2
      simp +contextual (disch := first | (simp only [factsC, clsL, clsS, clsC, isPtrD]; done) | omega | (simp only [push_nx, put_nx, del_nx]; omega) | (refine Nat.le_antisymm ?_ ?_ <;> simp only [push_nx, put_nx, del_nx] <;> omega) | fail) only [wpy, factsC, wpb, cst, wpk, wpl, forall_const, implies_true, false_implies, Int.reduceLE, Int.reduceLT, Nat.reduceLeDiff, UInt8.reduceToNat, ↓reduceIte, Nat.reduceEqDiff, Nat.reduceAdd, reduceCtorEq, Int.reduceToNat, clsL, clsS, clsC, Tryd.f35, e3, e7, e8, e9, hi2, hv1, hv2]
      exact hend _ (Ext.new _ _ _) v h4 ha4 hn4 hf4
    by_cases c3 : (gw ws i).kind = 3
    · have ht : tellF (gw ws i) = quoteF (gw ws i).text := by rw [tellF, if_neg c2, if_pos c3]
      simp +contextual (disch := first | (simp only [factsC, clsL, clsS, clsC, isPtrD]; done) | omega | (simp only [push_nx, put_nx, del_nx]; omega) | (refine Nat.le_antisymm ?_ ?_ <;> simp only [push_nx, put_nx, del_nx] <;> omega) | exact dok (by kernel_rfl)) only [draw_calm, draw_calmA, wpy, factsC, wpb, cst, wpk, wpl, forall_const, implies_true, false_implies, Int.reduceLE, Int.reduceLT, Nat.reduceLeDiff, UInt8.reduceToNat, ↓reduceIte, Nat.reduceEqDiff, Nat.reduceAdd, reduceCtorEq, Int.reduceToNat, clsL, clsS, clsC, Tryd.f35, e3, e7, e8, e9, hi2, hgb, hbn', w0, w1, c2, c3]
      refine ⟨.inr hxn, callF_exact (quote_spec hS _ _ hti) ?_⟩
      simp +contextual (disch := first | (simp only [factsC, clsL, clsS, clsC, isPtrD]; done) | omega | (simp only [push_nx, put_nx, del_nx]; omega) | (refine Nat.le_antisymm ?_ ?_ <;> simp only [push_nx, put_nx, del_nx] <;> omega) | fail) only [wpy, factsC, wpb, cst, wpk, wpl, forall_const, implies_true, false_implies, Int.reduceLE, Int.reduceLT, Nat.reduceLeDiff, UInt8.reduceToNat, ↓reduceIte, Nat.reduceEqDiff, Nat.reduceAdd, reduceCtorEq, Int.reduceToNat, clsL, clsS, clsC, Tryd.f35, e3, e7, e8, e9, hi2, hgb, hbn', w0, w1, c2]
      refine app_text (n0 := h.nx) (l := l) (ts := (ws.take i).map tellF) _ (by simp +contextual (disch := first | (simp only [factsC, clsL, clsS, clsC, isPtrD]; done) | omega | (simp only [push_nx, put_nx, del_nx]; omega) | (refine Nat.le_antisymm ?_ ?_ <;> simp only [push_nx, put_nx, del_nx] <;> omega) | fail) only [wpy, factsC, wpb, cst, wpk, wpl, forall_const, implies_true, false_implies, Int.reduceLE, Int.reduceLT, Nat.reduceLeDiff, UInt8.reduceToNat, ↓reduceIte, Nat.reduceEqDiff, Nat.reduceAdd, reduceCtorEq, Int.reduceToNat, clsL, clsS, clsC]) (by simp +contextual (disch := first | (simp only [factsC, clsL, clsS, clsC, isPtrD]; done) | omega | (simp only [push_nx, put_nx, del_nx]; omega) | (refine Nat.le_antisymm ?_ ?_ <;> simp only [push_nx, put_nx, del_nx] <;> omega) | fail) only [wpy, factsC, wpb, cst, wpk, wpl, forall_const, implies_true, false_implies, Int.reduceLE, Int.reduceLT, Nat.reduceLeDiff, UInt8.reduceToNat, ↓reduceIte, Nat.reduceEqDiff, Nat.reduceAdd, reduceCtorEq, Int.reduceToNat, clsL, clsS, clsC]) (hl2 _ _) hroom (fun k hk => by rw [fresh_def]; exact .inl hk) (by show h.nx ≤ h'.nx + 1; omega) ?_
      intro v h4 L ha4 hn4 hf4
      rw [← ht] at ha4
      have hv1 := ha4.cell.1
      have hv2 := ha4.cell.2
      simp +contextual (disch := first | (simp only [factsC, clsL, clsS, clsC, isPtrD]; done) | omega | (simp only [push_nx, put_nx, del_nx]; omega) | (refine Nat.le_antisymm ?_ ?_ <;> simp only [push_nx, put_nx, del_nx] <;> omega) | fail) only [wpy, factsC, wpb, cst, wpk, wpl, forall_const, implies_true, false_implies, Int.reduceLE, Int.reduceLT, Nat.reduceLeDiff, UInt8.reduceToNat, ↓reduceIte, Nat.reduceEqDiff, Nat.reduceAdd, reduceCtorEq, Int.reduceToNat, clsL, clsS, clsC, Tryd.f35, e3, e7, e8, e9, hi2, hv1, hv2]
      exact hend _ (Ext.new _ _ _) v h4 ha4 hn4 hf4
    by_cases c6 : (gw ws i).kind = 6
    · have ht : tellF (gw ws i) = 64 :: tickF (gw ws i).text := by rw [tellF, if_neg c2, if_neg c3, if_pos c6]; rfl
      have hb6 := tickF_len (gw ws i).text
      have hb7 : 1 + (tickF (gw ws i).text).length ≤ 9223372036854775807 := by omega
      simp +contextual (disch := first | (simp only [factsC, clsL, clsS, clsC, isPtrD]; done) | omega | (simp only [push_nx, put_nx, del_nx]; omega) | (refine Nat.le_antisymm ?_ ?_ <;> simp only [push_nx, put_nx, del_nx] <;> omega) | exact dok (by kernel_rfl)) only [draw_calm, draw_calmA, wpy, factsC, wpb, cst, wpk, wpl, forall_const, implies_true, false_implies, Int.reduceLE, Int.reduceLT, Nat.reduceLeDiff, UInt8.reduceToNat, ↓reduceIte, Nat.reduceEqDiff, Nat.reduceAdd, reduceCtorEq, Int.reduceToNat, clsL, clsS, clsC, Tryd.f35, e3, e7, e8, e9, hi2, hgb, hbn', w0, w1, c2, c3, c6]
      refine ⟨.inr hxn, callF_exact (tick_spec hS _ _ hti) ?_⟩
      simp +contextual (disch := first | (simp only [factsC, clsL, clsS, clsC, isPtrD]; done) | omega | (simp only [push_nx, put_nx, del_nx]; omega) | (refine Nat.le_antisymm ?_ ?_ <;> simp only [push_nx, put_nx, del_nx] <;> omega) | fail) only [wpy, factsC, wpb, cst, wpk, wpl, forall_const, implies_true, false_implies, Int.reduceLE, Int.reduceLT, Nat.reduceLeDiff, UInt8.reduceToNat, ↓reduceIte, Nat.reduceEqDiff, Nat.reduceAdd, reduceCtorEq, Int.reduceToNat, clsL, clsS, clsC, Tryd.f35, e3, e7, e8, e9, hi2, hgb, hbn', w0, w1, c2, hb7]
      refine app_text (n0 := h.nx) (l := l) (ts := (ws.take i).map tellF) _ (by simp +contextual (disch := first | (simp only [factsC, clsL, clsS, clsC, isPtrD]; done) | omega | (simp only [push_nx, put_nx, del_nx]; omega) | (refine Nat.le_antisymm ?_ ?_ <;> simp only [push_nx, put_nx, del_nx] <;> omega) | fail) only [wpy, factsC, wpb, cst, wpk, wpl, forall_const, implies_true, false_implies, Int.reduceLE, Int.reduceLT, Nat.reduceLeDiff, UInt8.reduceToNat, ↓reduceIte, Nat.reduceEqDiff, Nat.reduceAdd, reduceCtorEq, Int.reduceToNat, clsL, clsS, clsC]) (by simp +contextual (disch := first | (simp only [factsC, clsL, clsS, clsC, isPtrD]; done) | omega | (simp only [push_nx, put_nx, del_nx]; omega) | (refine Nat.le_antisymm ?_ ?_ <;> simp only [push_nx, put_nx, del_nx] <;> omega) | fail) only [wpy, factsC, wpb, cst, wpk, wpl, forall_const, implies_true, false_implies, Int.reduceLE, Int.reduceLT, Nat.reduceLeDiff, UInt8.reduceToNat, ↓reduceIte, Nat.reduceEqDiff, Nat.reduceAdd, reduceCtorEq, Int.reduceToNat, clsL, clsS, clsC]) (hl2 _ _) hroom (fun k hk => by rw [fresh_def]; exact .inl hk) (by show h.nx ≤ h'.nx + 1; omega) ?_
      intro v h4 L ha4 hn4 hf4
      rw [← ht] at ha4
      have hv1 := ha4.cell.1
      have hv2 := ha4.cell.2
      simp +contextual (disch := first | (simp only [factsC, clsL, clsS, clsC, isPtrD]; done) | omega | (simp only [push_nx, put_nx, del_nx]; omega) | (refine Nat.le_antisymm ?_ ?_ <;> simp only [push_nx, put_nx, del_nx] <;> omega) | fail) only [wpy, factsC, wpb, cst, wpk, wpl, forall_const, implies_true, false_implies, Int.reduceLE, Int.reduceLT, Nat.reduceLeDiff, UInt8.reduceToNat, ↓reduceIte, Nat.reduceEqDiff, Nat.reduceAdd, reduceCtorEq, Int.reduceToNat, clsL, clsS, clsC, Tryd.f35, e3, e7, e8, e9, hi2, hv1, hv2]
      exact hend _ (Ext.new _ _ _) v h4 ha4 hn4 hf4
    by_cases c7 : (gw ws i).kind = 7
    · have ht : tellF (gw ws i) = 64 :: 64 :: (gw ws i).text := by rw [tellF, if_neg c2, if_neg c3, if_neg c6, if_pos c7]; rfl
      have hb7 : 2 + (gw ws i).text.length ≤ 9223372036854775807 := by omega
      have hb8 : 1 + 1 + (gw ws i).text.length ≤ 9223372036854775807 := by omega
      simp +contextual (disch := first | (simp only [factsC, clsL, clsS, clsC, isPtrD]; done) | omega | (simp only [push_nx, put_nx, del_nx]; omega) | (refine Nat.le_antisymm ?_ ?_ <;> simp only [push_nx, put_nx, del_nx] <;> omega) | exact dok (by kernel_rfl)) only [draw_calm, draw_calmA, wpy, factsC, wpb, cst, wpk, wpl, forall_const, implies_true, false_implies, Int.reduceLE, Int.reduceLT, Nat.reduceLeDiff, UInt8.reduceToNat, ↓reduceIte, Nat.reduceEqDiff, Nat.reduceAdd, reduceCtorEq, Int.reduceToNat, clsL, clsS, clsC, Tryd.f35, e3, e7, e8, e9, hi2, hgb, hbn', w0, w1, c2, c3, c6, c7, hb7, hb8]
      refine ⟨.inr hxn, ?_⟩
      refine app_text (n0 := h.nx) (l := l) (ts := (ws.take i).map tellF) _ (by simp +contextual (disch := first | (simp only [factsC, clsL, clsS, clsC, isPtrD]; done) | omega | (simp only [push_nx, put_nx, del_nx]; omega) | (refine Nat.le_antisymm ?_ ?_ <;> simp only [push_nx, put_nx, del_nx] <;> omega) | fail) only [wpy, factsC, wpb, cst, wpk, wpl, forall_const, implies_true, false_implies, Int.reduceLE, Int.reduceLT, Nat.reduceLeDiff, UInt8.reduceToNat, ↓reduceIte, Nat.reduceEqDiff, Nat.reduceAdd, reduceCtorEq, Int.reduceToNat, clsL, clsS, clsC]) (by simp +contextual (disch := first | (simp only [factsC, clsL, clsS, clsC, isPtrD]; done) | omega | (simp only [push_nx, put_nx, del_nx]; omega) | (refine Nat.le_antisymm ?_ ?_ <;> simp only [push_nx, put_nx, del_nx] <;> omega) | fail) only [wpy, factsC, wpb, cst, wpk, wpl, forall_const, implies_true, false_implies, Int.reduceLE, Int.reduceLT, Nat.reduceLeDiff, UInt8.reduceToNat, ↓reduceIte, Nat.reduceEqDiff, Nat.reduceAdd, reduceCtorEq, Int.reduceToNat, clsL, clsS, clsC]) (hl2 _ _) hroom (fun k hk => by rw [fresh_def]; exact .inl hk) (by show h.nx ≤ h'.nx + 1; omega) ?_
      intro v h4 L ha4 hn4 hf4
      rw [← ht] at ha4
      have hv1 := ha4.cell.1
      have hv2 := ha4.cell.2
      simp +contextual (disch := first | (simp only [factsC, clsL, clsS, clsC, isPtrD]; done) | omega | (simp only [push_nx, put_nx, del_nx]; omega) | (refine Nat.le_antisymm ?_ ?_ <;> simp only [push_nx, put_nx, del_nx] <;> omega) | fail) only [wpy, factsC, wpb, cst, wpk, wpl, forall_const, implies_true, false_implies, Int.reduceLE, Int.reduceLT, Nat.reduceLeDiff, UInt8.reduceToNat, ↓reduceIte, Nat.reduceEqDiff, Nat.reduceAdd, reduceCtorEq, Int.reduceToNat, clsL, clsS, clsC, Tryd.f35, e3, e7, e8, e9, hi2, hv1, hv2]
      exact hend _ (Ext.new _ _ _) v h4 ha4 hn4 hf4
    by_cases c8 : (gw ws i).kind = 8
    · have ht : tellF (gw ws i) = [63] := by rw [tellF, if_neg c2, if_neg c3, if_neg c6, if_neg c7, if_pos c8]
      simp +contextual (disch := first | (simp only [factsC, clsL, clsS, clsC, isPtrD]; done) | omega | (simp only [push_nx, put_nx, del_nx]; omega) | (refine Nat.le_antisymm ?_ ?_ <;> simp only [push_nx, put_nx, del_nx] <;> omega) | exact dok (by kernel_rfl)) only [draw_calm, draw_calmA, wpy, factsC, wpb, cst, wpk, wpl, forall_const, implies_true, false_implies, Int.reduceLE, Int.reduceLT, Nat.reduceLeDiff, UInt8.reduceToNat, ↓reduceIte, Nat.reduceEqDiff, Nat.reduceAdd, reduceCtorEq, Int.reduceToNat, clsL, clsS, clsC, Tryd.f35, e3, e7, e8, e9, hi2, hgb, hbn', w0, w1, c2, c3, c6, c7, c8]
      refine ⟨.inr hxn, ?_⟩
      refine app_text (n0 := h.nx) (l := l) (ts := (ws.take i).map tellF) _ (by simp +contextual (disch := first | (simp only [factsC, clsL, clsS, clsC, isPtrD]; done) | omega | (simp only [push_nx, put_nx, del_nx]; omega) | (refine Nat.le_antisymm ?_ ?_ <;> simp only [push_nx, put_nx, del_nx] <;> omega) | fail) only [wpy, factsC, wpb, cst, wpk, wpl, forall_const, implies_true, false_implies, Int.reduceLE, Int.reduceLT, Nat.reduceLeDiff, UInt8.reduceToNat, ↓reduceIte, Nat.reduceEqDiff, Nat.reduceAdd, reduceCtorEq, Int.reduceToNat, clsL, clsS, clsC]) (by simp +contextual (disch := first | (simp only [factsC, clsL, clsS, clsC, isPtrD]; done) | omega | (simp only [push_nx, put_nx, del_nx]; omega) | (refine Nat.le_antisymm ?_ ?_ <;> simp only [push_nx, put_nx, del_nx] <;> omega) | fail) only [wpy, factsC, wpb, cst, wpk, wpl, forall_const, implies_true, false_implies, Int.reduceLE, Int.reduceLT, Nat.reduceLeDiff, UInt8.reduceToNat, ↓reduceIte, Nat.reduceEqDiff, Nat.reduceAdd, reduceCtorEq, Int.reduceToNat, clsL, clsS, clsC]) (hl2 _ _) hroom (fun k hk => by rw [fresh_def]; exact .inl hk) (by show h.nx ≤ h'.nx + 1; omega) ?_
      intro v h4 L ha4 hn4 hf4
      rw [← ht] at ha4
      have hv1 := ha4.cell.1
      have hv2 := ha4.cell.2
      simp +contextual (disch := first | (simp only [factsC, clsL, clsS, clsC, isPtrD]; done) | omega | (simp only [push_nx, put_nx, del_nx]; omega) | (refine Nat.le_antisymm ?_ ?_ <;> simp only [push_nx, put_nx, del_nx] <;> omega) | fail) only [wpy, factsC, wpb, cst, wpk, wpl, forall_const, implies_true, false_implies, Int.reduceLE, Int.reduceLT, Nat.reduceLeDiff, UInt8.reduceToNat, ↓reduceIte, Nat.reduceEqDiff, Nat.reduceAdd, reduceCtorEq, Int.reduceToNat, clsL, clsS, clsC, Tryd.f35, e3, e7, e8, e9, hi2, hv1, hv2]
      exact hend _ (Ext.new _ _ _) v h4 ha4 hn4 hf4
    · have ht : tellF (gw ws i) = (gw ws i).text := by rw [tellF, if_neg c2, if_neg c3, if_neg c6, if_neg c7, if_neg c8]
      simp +contextual (disch := first | (simp only [factsC, clsL, clsS, clsC, isPtrD]; done) | omega | (simp only [push_nx, put_nx, del_nx]; omega) | (refine Nat.le_antisymm ?_ ?_ <;> simp only [push_nx, put_nx, del_nx] <;> omega) | exact dok (by kernel_rfl)) only [draw_calm, draw_calmA, wpy, factsC, wpb, cst, wpk, wpl, forall_const, implies_true, false_implies, Int.reduceLE, Int.reduceLT, Nat.reduceLeDiff, UInt8.reduceToNat, ↓reduceIte, Nat.reduceEqDiff, Nat.reduceAdd, reduceCtorEq, Int.reduceToNat, clsL, clsS, clsC, Tryd.f35, e3, e7, e8, e9, hi2, hgb, hbn', w0, w1, c2, c3, c6, c7, c8]
      refine ⟨.inr hxn, ?_⟩
      refine app_text (n0 := h.nx) (l := l) (ts := (ws.take i).map tellF) _ (by simp +contextual (disch := first | (simp only [factsC, clsL, clsS, clsC, isPtrD]; done) | omega | (simp only [push_nx, put_nx, del_nx]; omega) | (refine Nat.le_antisymm ?_ ?_ <;> simp only [push_nx, put_nx, del_nx] <;> omega) | fail) only [wpy, factsC, wpb, cst, wpk, wpl, forall_const, implies_true, false_implies, Int.reduceLE, Int.reduceLT, Nat.reduceLeDiff, UInt8.reduceToNat, ↓reduceIte, Nat.reduceEqDiff, Nat.reduceAdd, reduceCtorEq, Int.reduceToNat, clsL, clsS, clsC]) (by simp +contextual (disch := first | (simp only [factsC, clsL, clsS, clsC, isPtrD]; done) | omega | (simp only [push_nx, put_nx, del_nx]; omega) | (refine Nat.le_antisymm ?_ ?_ <;> simp only [push_nx, put_nx, del_nx] <;> omega) | fail) only [wpy, factsC, wpb, cst, wpk, wpl, forall_const, implies_true, false_implies, Int.reduceLE, Int.reduceLT, Nat.reduceLeDiff, UInt8.reduceToNat, ↓reduceIte, Nat.reduceEqDiff, Nat.reduceAdd, reduceCtorEq, Int.reduceToNat, clsL, clsS, clsC]) (hl2 _ _) hroom (fun k hk => by rw [fresh_def]; exact .inl hk) (by show h.nx ≤ h'.nx + 1; omega) ?_
      intro v h4 L ha4 hn4 hf4
      rw [← ht] at ha4
      have hv1 := ha4.cell.1
      have hv2 := ha4.cell.2
      simp +contextual (disch := first | (simp only [factsC, clsL, clsS, clsC, isPtrD]; done) | omega | (simp only [push_nx, put_nx, del_nx]; omega) | (refine Nat.le_antisymm ?_ ?_ <;> simp only [push_nx, put_nx, del_nx] <;> omega) | fail) only [wpy, factsC, wpb, cst, wpk, wpl, forall_const, implies_true, false_implies, Int.reduceLE, Int.reduceLT, Nat.reduceLeDiff, UInt8.reduceToNat, ↓reduceIte, Nat.reduceEqDiff, Nat.reduceAdd, reduceCtorEq, Int.reduceToNat, clsL, clsS, clsC, Tryd.f35, e3, e7, e8, e9, hi2, hv1, hv2]
      exact hend _ (Ext.new _ _ _) v h4 ha4 hn4 hf4
  · have hle : i = ws.length := by omega
    subst hle
    rw [List.take_length] at hl
    simp +contextual (disch := first | (simp only [factsC, clsL, clsS, clsC, isPtrD]; done) | omega | (simp only [push_nx, put_nx, del_nx]; omega) | (refine Nat.le_antisymm ?_ ?_ <;> simp only [push_nx, put_nx, del_nx] <;> omega) | exact dok (by kernel_rfl)) only [draw_calm, draw_calmA, wpy, factsC, wpb, cst, wpk, wpl, forall_const, implies_true, false_implies, Int.reduceLE, Int.reduceLT, Nat.reduceLeDiff, UInt8.reduceToNat, ↓reduceIte, Nat.reduceEqDiff, Nat.reduceAdd, reduceCtorEq, Int.reduceToNat, clsL, clsS, clsC, Tryd.f35, e3, e7, e8, e9, hi2]
    refine callF_exact (join_exact hS l (ws.map tellF) [32] h.nx (9 * B + 20) h' hl ?_ ?_ (by omega) (by decide)) ?_
    · rw [List.length_map]; omega
    · intro t ht
      obtain ⟨w, hw, rfl⟩ := List.mem_map.1 ht
      exact (tellF_ok (hg.2 w hw)).2
    simp +contextual (disch := first | (simp only [factsC, clsL, clsS, clsC, isPtrD]; done) | omega | (simp only [push_nx, put_nx, del_nx]; omega) | (refine Nat.le_antisymm ?_ ?_ <;> simp only [push_nx, put_nx, del_nx] <;> omega) | exact dok (by kernel_rfl)) only [draw_calm, draw_calmA, wpy, factsC, wpb, cst, wpk, wpl, forall_const, implies_true, false_implies, Int.reduceLE, Int.reduceLT, Nat.reduceLeDiff, UInt8.reduceToNat, ↓reduceIte, Nat.reduceEqDiff, Nat.reduceAdd, reduceCtorEq, Int.reduceToNat, clsL, clsS, clsC, Tryd.f35, e3, e7, e8, e9, hi2]
    first | exact hx | exact ⟨hx, rfl⟩ | trace_state
end
end Go.Proofs.YtkibhdbmamfjcaaDoor

/-
  digest.Text, whatever the text.
-/
set_option linter.unusedSimpArgs false
set_option linter.unusedVariables false
set_option linter.defProp false
set_option maxRecDepth 10000
namespace Go.Proofs.YtkibhdbmamfjcaaDoor
open Go.Proofs Go.Lx Go.Wx Go.IntWalk
noncomputable section

theorem eq26_0 (a b c d : Int) : eqT Tryd.prog 26 (.agg [.int .i64 a, .int .i64 b]) (.agg [.int .i64 c, .int .i64 d]) = (match some (a == c) with
    | some true => (match some (b == d) with
      | some true => some true
      | r => r)
    | r => r) := by kernel_rfl
theorem eq26 (a b c d : Int) : eqT Tryd.prog 26 (.agg [.int .i64 a, .int .i64 b]) (.agg [.int .i64 c, .int .i64 d]) = some (decide (a = c ∧ b = d)) := by
  rw [eq26_0]
  by_cases h1 : a = c
  · by_cases h2 : b = d
    · simp [h1, h2]
    · have : (b == d) = false := by simpa using h2
      simp [h1, h2, this]
  · have : (a == c) = false := by simpa using h1
    simp [h1, this]
theorem dagg_neq (q : Bool) (a b c d : Int) : binV Tryd.prog .neq 26 q (.agg [.int .i64 a, .int .i64 b]) (.agg [.int .i64 c, .int .i64 d]) = some (bo (¬ (a = c ∧ b = d))) := by
  have : binV Tryd.prog .neq 26 q (.agg [.int .i64 a, .int .i64 b]) (.agg [.int .i64 c, .int .i64 d]) = eqOpV Tryd.prog .neq 26 (.agg [.int .i64 a, .int .i64 b]) (.agg [.int .i64 c, .int .i64 d]) := rfl
  rw [this, eqOpV, eq26]
  unfold bo
  by_cases h : a = c ∧ b = d <;> simp [h]

variable {S : Set0} (hS : StdD S)
include hS
set_option maxHeartbeats 2000000 in
theorem text_spec' (s : List Nat) (h : H) (hb : Bytes s) (hs : s.length ≤ 10000) : Pure S.cfg 24 [.str s] h fun v _ => v = (digF s).v := by
  refine into Tryd.f24 _ Tryd.func24 (hS.ownD _ (by decide)) rfl rfl (by kernel_rfl) (by kernel_rfl) ?_
  simp +contextual (disch := first | (simp only [factsC, clsL, clsS, clsC, isPtrD]; done) | omega | (simp only [push_nx, put_nx, del_nx]; omega) | (refine Nat.le_antisymm ?_ ?_ <;> simp only [push_nx, put_nx, del_nx] <;> omega) | fail) only [wpy, factsC, wpb, cst, wpk, wpl, forall_const, implies_true, false_implies, Int.reduceLE, Int.reduceLT, Nat.reduceLeDiff, UInt8.reduceToNat, ↓reduceIte, Nat.reduceEqDiff, Nat.reduceAdd, reduceCtorEq, Int.reduceToNat, clsL, clsS, clsC, Tryd.f24]
  refine callF_pure (all_spec hS.toStdF s _ hb (by omega)) ?_
  intro v h1 hx hv
  have hX1 : Ext h h1 := ((Ext.refl h).push _).trans hx
  have hle := hx.1
  have n1 : ¬ h.nx = h1.nx := by rw [push_nx] at hle; omega
  have g1 : h1.get h.nx = some (.cells [.int .i64 0, .int .i64 0] 26 false) := by rw [hx.2 h.nx (Nat.lt_succ_self _), push_eq rfl]
  unfold allV at hv
  rw [if_neg (by omega)] at hv
  have hdig : digF s = match allF s with
    | .inl ws => ⟨joinF ((wordsF ws).map tellF) [32], 0, 0⟩
    | .inr (e, p) => ⟨[], e, p⟩ := by rw [digF, if_neg (by omega)] <;> (cases allF s <;> rfl)
  rw [hdig]
  cases hA : allF s with
  | inl ws =>
    rw [hA] at hv
    obtain ⟨l, rfl, hl⟩ := hv
    have hc1 := hl.cell.1
    have hc2 := hl.cell.2
    have hgood := allF_good hb hA
    simp +contextual (disch := first | (simp only [factsC, clsL, clsS, clsC, isPtrD]; done) | omega | (simp only [push_nx, put_nx, del_nx]; omega) | (refine Nat.le_antisymm ?_ ?_ <;> simp only [push_nx, put_nx, del_nx] <;> omega) | fail) only [wpy, factsC, wpb, cst, wpk, wpl, forall_const, implies_true, false_implies, Int.reduceLE, Int.reduceLT, Nat.reduceLeDiff, UInt8.reduceToNat, ↓reduceIte, Nat.reduceEqDiff, Nat.reduceAdd, reduceCtorEq, Int.reduceToNat, clsL, clsS, clsC, Tryd.f24, hc1, hc2, dagg_neq, n1, g1]
    refine ⟨.inr hX1.1, callF_pure (words_spec hS l ws _ ((Wds.of_acc hl).ext (Ext.new _ _ _)) (by have := hgood.1; omega)) ?_⟩
    intro v2 h2 hx2 hw2
    have hi2 := hw2.cell
    have hX2 : Ext h h2 := (hX1.trans (Ext.new _ _ _)).trans hx2
    have g2 : h2.get h.nx = some (.cells [.int .i64 0, .int .i64 0] 26 false) := by rw [hx2.2 h.nx (by rw [put_nx, push_nx]; rw [push_nx] at hle; omega), put_ne n1, push_ne n1]; exact g1
    simp +contextual (disch := first | (simp only [factsC, clsL, clsS, clsC, isPtrD]; done) | omega | (simp only [push_nx, put_nx, del_nx]; omega) | (refine Nat.le_antisymm ?_ ?_ <;> simp only [push_nx, put_nx, del_nx] <;> omega) | fail) only [wpy, factsC, wpb, cst, wpk, wpl, forall_const, implies_true, false_implies, Int.reduceLE, Int.reduceLT, Nat.reduceLeDiff, UInt8.reduceToNat, ↓reduceIte, Nat.reduceEqDiff, Nat.reduceAdd, reduceCtorEq, Int.reduceToNat, clsL, clsS, clsC, Tryd.f24, hi2.1, hi2.2]
    refine callF_pure (plain_spec hS s.length s.length hs hs v2 _ h2 hw2 (wordsF_good hgood)) ?_
    rintro v3 h3 hx3 rfl
    have g3 : h3.get h.nx = some (.cells [.int .i64 0, .int .i64 0] 26 false) := by rw [hx3.2 h.nx (by have := hx2.1; rw [put_nx, push_nx] at this; rw [push_nx] at hle; omega)]; exact g2
    simp +contextual (disch := first | (simp only [factsC, clsL, clsS, clsC, isPtrD]; done) | omega | (simp only [push_nx, put_nx, del_nx]; omega) | (refine Nat.le_antisymm ?_ ?_ <;> simp only [push_nx, put_nx, del_nx] <;> omega) | exact dok (by kernel_rfl)) only [draw_calm, draw_calmA, wpy, factsC, wpb, cst, wpk, wpl, forall_const, implies_true, false_implies, Int.reduceLE, Int.reduceLT, Nat.reduceLeDiff, UInt8.reduceToNat, ↓reduceIte, Nat.reduceEqDiff, Nat.reduceAdd, reduceCtorEq, Int.reduceToNat, clsL, clsS, clsC, Tryd.f24, g3]
    exact ⟨(hX2.trans hx3).put (Nat.le_refl _) _, rfl⟩
  | inr ep =>
    obtain ⟨e, p⟩ := ep
    rw [hA] at hv
    subst hv
    have he := allR_err _ _ _ _ _ hA
    have he' : ¬ (e = 0 ∧ p = 0) := by omega
    simp +contextual (disch := first | (simp only [factsC, clsL, clsS, clsC, isPtrD]; done) | omega | (simp only [push_nx, put_nx, del_nx]; omega) | (refine Nat.le_antisymm ?_ ?_ <;> simp only [push_nx, put_nx, del_nx] <;> omega) | exact dok (by kernel_rfl)) only [draw_calm, draw_calmA, wpy, factsC, wpb, cst, wpk, wpl, forall_const, implies_true, false_implies, Int.reduceLE, Int.reduceLT, Nat.reduceLeDiff, UInt8.reduceToNat, ↓reduceIte, Nat.reduceEqDiff, Nat.reduceAdd, reduceCtorEq, Int.reduceToNat, clsL, clsS, clsC, Tryd.f24, dagg_neq, he', n1, g1]
    exact ⟨.inr hX1.1, ((hX1.push _).put hX1.1 _).put (Nat.le_refl _) _, rfl⟩
end
end Go.Proofs.YtkibhdbmamfjcaaDoor
