/-
  Several texts of one walk, joined.
-/
import Derived.Test.YtinbhlejofgomaaGreatProg
import Derived.Test.YtinbhlejofgomaaGreatWxZ
import Derived.Test.YtinbhlejofgomaaGreatLxZ
set_option linter.defProp false
set_option linter.unusedSimpArgs false
set_option linter.unusedVariables false
namespace Go.Proofs.YtinbhlejofgomaaGreat
open Go.Proofs Go.Lx Go.Wx
noncomputable section
theorem ty27 : tyR Tryz.prog 27 = some (8, true) := by kernel_rfl
theorem ps33 : ptrSz Tryz.prog 33 = true := by kernel_rfl
theorem ps37 : ptrSz Tryz.prog 37 = true := by kernel_rfl
-- eq on type 4
theorem ia30 (k o n m : Nat) (kd : IntKind) (i : Int) : indexAddrV Tryz.prog 30 (.slice k o n m) (.int kd i) = if 0 ≤ i ∧ i < n then some (.ptr k (o + i.toNat * 1)) else none := indexAddr_slice (e := 4) (by kernel_rfl) (by kernel_rfl) k o n m kd i
theorem ty4 : tyR Tryz.prog 4 = some (1, false) := by kernel_rfl
theorem ia29 (k o n m : Nat) (kd : IntKind) (i : Int) : indexAddrV Tryz.prog 29 (.slice k o n m) (.int kd i) = if 0 ≤ i ∧ i < n then some (.ptr k (o + i.toNat * 1)) else none := indexAddr_slice (e := 25) (by kernel_rfl) (by kernel_rfl) k o n m kd i
theorem ty25 : tyR Tryz.prog 25 = some (1, false) := by kernel_rfl
theorem ze53 : zeroL Tryz.prog 53 = some [.int .i64 0, .bool false, .int .u64 0, .int .u64 0, .int .u16 0, .int .u16 0, .str [], .nilslice, .int .u16 0, .str [], .str [], .int .u16 0, .int .u16 0, .int .u32 0, .int .u16 0, .int .u16 0, .int .u16 0] := by kernel_rfl
theorem sz53 : szT Tryz.prog 53 = some 17 := by kernel_rfl
theorem ty53 : tyR Tryz.prog 53 = some (17, true) := by kernel_rfl
theorem bu27_0 (v0_0 : V) : buildV Tryz.prog 27 [(0, [v0_0])] = some (.agg [v0_0, .str [], .int .u32 0, .int .u16 0, .int .u8 0, .int .u32 0, .int .u16 0, .nilslice]) := by kernel_rfl
theorem fa53_0 (k o : Nat) : fieldAddrV Tryz.prog 53 (.ptr k o) 0 = some (.ptr k (o + 0)) := by kernel_rfl
theorem ty3 : tyR Tryz.prog 3 = some (1, false) := by kernel_rfl
theorem fa53_1 (k o : Nat) : fieldAddrV Tryz.prog 53 (.ptr k o) 1 = some (.ptr k (o + 1)) := by kernel_rfl
theorem fa53_2 (k o : Nat) : fieldAddrV Tryz.prog 53 (.ptr k o) 2 = some (.ptr k (o + 2)) := by kernel_rfl
theorem fa45_2 (k o : Nat) : fieldAddrV Tryz.prog 45 (.ptr k o) 2 = some (.ptr k (o + 2)) := by kernel_rfl
theorem ty24 : tyR Tryz.prog 24 = some (1, false) := by kernel_rfl
theorem fa27_0 (k o : Nat) : fieldAddrV Tryz.prog 27 (.ptr k o) 0 = some (.ptr k (o + 0)) := by kernel_rfl
theorem ty5 : tyR Tryz.prog 5 = some (1, false) := by kernel_rfl
theorem ia28 (k o n m : Nat) (kd : IntKind) (i : Int) : indexAddrV Tryz.prog 28 (.slice k o n m) (.int kd i) = if 0 ≤ i ∧ i < n then some (.ptr k (o + i.toNat * 10)) else none := indexAddr_slice (e := 67) (by kernel_rfl) (by kernel_rfl) k o n m kd i
theorem ty67 : tyR Tryz.prog 67 = some (10, true) := by kernel_rfl
theorem ze67 : zeroL Tryz.prog 67 = some [.str [], .str [], .str [], .str [], .str [], .int .u16 0, .int .u32 0, .int .u8 0, .int .u16 0, .int .u8 0] := by kernel_rfl
theorem sz67 : szT Tryz.prog 67 = some 10 := by kernel_rfl
theorem bu71_0_1_12_11 (v0_0 v1_0 v1_1 v1_2 v1_3 v1_4 v1_5 v1_6 v1_7 v12_0 v11_0 : V) : buildV Tryz.prog 71 [(0, [v0_0]), (1, [v1_0, v1_1, v1_2, v1_3, v1_4, v1_5, v1_6, v1_7]), (12, [v12_0]), (11, [v11_0])] = some (.agg [v0_0, v1_0, v1_1, v1_2, v1_3, v1_4, v1_5, v1_6, v1_7, .nilfunc, .bool false, .bool false, .int .i64 0, .nilslice, .nilslice, .int .i64 0, .bool false, .int .u16 0, v11_0, v12_0]) := by kernel_rfl
theorem fa71_6 (k o : Nat) : fieldAddrV Tryz.prog 71 (.ptr k o) 6 = some (.ptr k (o + 13)) := by kernel_rfl
theorem sz28 : szT Tryz.prog 28 = some 1 := by kernel_rfl
theorem bu75_0_1_2_3 (v0_0 v1_0 v2_0 v2_1 v2_2 v2_3 v2_4 v2_5 v2_6 v2_7 v3_0 : V) : buildV Tryz.prog 75 [(0, [v0_0]), (1, [v1_0]), (2, [v2_0, v2_1, v2_2, v2_3, v2_4, v2_5, v2_6, v2_7]), (3, [v3_0])] = some (.agg [v0_0, v1_0, v2_0, v2_1, v2_2, v2_3, v2_4, v2_5, v2_6, v2_7, v3_0, .int .i64 0, .int .i64 0, .nilslice, .int .u16 0]) := by kernel_rfl
theorem fa75_3 (k o : Nat) : fieldAddrV Tryz.prog 75 (.ptr k o) 3 = some (.ptr k (o + 10)) := by kernel_rfl
theorem sz3 : szT Tryz.prog 3 = some 1 := by kernel_rfl
theorem fa75_6 (k o : Nat) : fieldAddrV Tryz.prog 75 (.ptr k o) 6 = some (.ptr k (o + 13)) := by kernel_rfl
theorem ty28 : tyR Tryz.prog 28 = some (1, false) := by kernel_rfl
theorem ap28 : apI Tryz.prog 28 = some (67, 10, 96) := by kernel_rfl
theorem fa71_2 (k o : Nat) : fieldAddrV Tryz.prog 71 (.ptr k o) 2 = some (.ptr k (o + 9)) := by kernel_rfl
theorem ty69 : tyR Tryz.prog 69 = some (1, false) := by kernel_rfl
-- eq on type 69
theorem fa71_4 (k o : Nat) : fieldAddrV Tryz.prog 71 (.ptr k o) 4 = some (.ptr k (o + 11)) := by kernel_rfl
theorem sz4 : szT Tryz.prog 4 = some 1 := by kernel_rfl
theorem bu53 : buildV Tryz.prog 53 [] = some (.agg [.int .i64 0, .bool false, .int .u64 0, .int .u64 0, .int .u16 0, .int .u16 0, .str [], .nilslice, .int .u16 0, .str [], .str [], .int .u16 0, .int .u16 0, .int .u32 0, .int .u16 0, .int .u16 0, .int .u16 0]) := by kernel_rfl
theorem fa45_0 (k o : Nat) : fieldAddrV Tryz.prog 45 (.ptr k o) 0 = some (.ptr k (o + 0)) := by kernel_rfl
theorem ty43 : tyR Tryz.prog 43 = some (1, false) := by kernel_rfl
theorem fa45_1 (k o : Nat) : fieldAddrV Tryz.prog 45 (.ptr k o) 1 = some (.ptr k (o + 1)) := by kernel_rfl
theorem fa45_3 (k o : Nat) : fieldAddrV Tryz.prog 45 (.ptr k o) 3 = some (.ptr k (o + 3)) := by kernel_rfl
theorem fa45_4 (k o : Nat) : fieldAddrV Tryz.prog 45 (.ptr k o) 4 = some (.ptr k (o + 4)) := by kernel_rfl
theorem ty9 : tyR Tryz.prog 9 = some (1, false) := by kernel_rfl
theorem fa45_5 (k o : Nat) : fieldAddrV Tryz.prog 45 (.ptr k o) 5 = some (.ptr k (o + 5)) := by kernel_rfl
theorem fa53_3 (k o : Nat) : fieldAddrV Tryz.prog 53 (.ptr k o) 3 = some (.ptr k (o + 8)) := by kernel_rfl
theorem ty47 : tyR Tryz.prog 47 = some (3, true) := by kernel_rfl
-- eq on type 47
theorem fa53_4 (k o : Nat) : fieldAddrV Tryz.prog 53 (.ptr k o) 4 = some (.ptr k (o + 11)) := by kernel_rfl
theorem ty49 : tyR Tryz.prog 49 = some (2, true) := by kernel_rfl
-- eq on type 49
theorem fa53_5 (k o : Nat) : fieldAddrV Tryz.prog 53 (.ptr k o) 5 = some (.ptr k (o + 13)) := by kernel_rfl
theorem ty51 : tyR Tryz.prog 51 = some (4, true) := by kernel_rfl
-- eq on type 51
theorem fa71_3 (k o : Nat) : fieldAddrV Tryz.prog 71 (.ptr k o) 3 = some (.ptr k (o + 10)) := by kernel_rfl
theorem fa71_10 (k o : Nat) : fieldAddrV Tryz.prog 71 (.ptr k o) 10 = some (.ptr k (o + 17)) := by kernel_rfl
theorem fa75_7 (k o : Nat) : fieldAddrV Tryz.prog 75 (.ptr k o) 7 = some (.ptr k (o + 14)) := by kernel_rfl
-- eq on type 67
theorem bu45_2 (v2_0 : V) : buildV Tryz.prog 45 [(2, [v2_0])] = some (.agg [.int .u64 0, .int .u64 0, v2_0, .int .u16 0, .str [], .nilslice]) := by kernel_rfl
theorem ze27 : zeroL Tryz.prog 27 = some [.int .u8 0, .str [], .int .u32 0, .int .u16 0, .int .u8 0, .int .u32 0, .int .u16 0, .nilslice] := by kernel_rfl
theorem sz27 : szT Tryz.prog 27 = some 8 := by kernel_rfl
theorem fa27_1 (k o : Nat) : fieldAddrV Tryz.prog 27 (.ptr k o) 1 = some (.ptr k (o + 1)) := by kernel_rfl
theorem fa27_2 (k o : Nat) : fieldAddrV Tryz.prog 27 (.ptr k o) 2 = some (.ptr k (o + 2)) := by kernel_rfl
theorem ty22 : tyR Tryz.prog 22 = some (1, false) := by kernel_rfl
theorem fa27_3 (k o : Nat) : fieldAddrV Tryz.prog 27 (.ptr k o) 3 = some (.ptr k (o + 3)) := by kernel_rfl
theorem fa27_4 (k o : Nat) : fieldAddrV Tryz.prog 27 (.ptr k o) 4 = some (.ptr k (o + 4)) := by kernel_rfl
theorem fa27_5 (k o : Nat) : fieldAddrV Tryz.prog 27 (.ptr k o) 5 = some (.ptr k (o + 5)) := by kernel_rfl
theorem fa27_6 (k o : Nat) : fieldAddrV Tryz.prog 27 (.ptr k o) 6 = some (.ptr k (o + 6)) := by kernel_rfl
theorem fa27_7 (k o : Nat) : fieldAddrV Tryz.prog 27 (.ptr k o) 7 = some (.ptr k (o + 7)) := by kernel_rfl
theorem fa67_0 (k o : Nat) : fieldAddrV Tryz.prog 67 (.ptr k o) 0 = some (.ptr k (o + 0)) := by kernel_rfl
theorem fa67_1 (k o : Nat) : fieldAddrV Tryz.prog 67 (.ptr k o) 1 = some (.ptr k (o + 1)) := by kernel_rfl
theorem fa67_2 (k o : Nat) : fieldAddrV Tryz.prog 67 (.ptr k o) 2 = some (.ptr k (o + 2)) := by kernel_rfl
theorem fa67_3 (k o : Nat) : fieldAddrV Tryz.prog 67 (.ptr k o) 3 = some (.ptr k (o + 3)) := by kernel_rfl
theorem fa67_4 (k o : Nat) : fieldAddrV Tryz.prog 67 (.ptr k o) 4 = some (.ptr k (o + 4)) := by kernel_rfl
theorem bs80_5 (v0_0 v1_0 v2_0 v3_0 v4_0 : V) : buildSliceL Tryz.prog 80 5 [(0, [v0_0]), (1, [v1_0]), (2, [v2_0]), (3, [v3_0]), (4, [v4_0])] = some ([v0_0, v1_0, v2_0, v3_0, v4_0], 9) := by kernel_rfl
theorem ia80 (k o n m : Nat) (kd : IntKind) (i : Int) : indexAddrV Tryz.prog 80 (.slice k o n m) (.int kd i) = if 0 ≤ i ∧ i < n then some (.ptr k (o + i.toNat * 1)) else none := indexAddr_slice (e := 9) (by kernel_rfl) (by kernel_rfl) k o n m kd i
theorem fa67_7 (k o : Nat) : fieldAddrV Tryz.prog 67 (.ptr k o) 7 = some (.ptr k (o + 7)) := by kernel_rfl
-- eq on type 28
theorem bs28_0 : buildSliceL Tryz.prog 28 0 [] = some ([], 67) := by kernel_rfl
theorem sz69 : szT Tryz.prog 69 = some 1 := by kernel_rfl
theorem fa71_0 (k o : Nat) : fieldAddrV Tryz.prog 71 (.ptr k o) 0 = some (.ptr k (o + 0)) := by kernel_rfl
theorem ty23 : tyR Tryz.prog 23 = some (1, false) := by kernel_rfl
theorem ze49 : zeroL Tryz.prog 49 = some [.int .u16 0, .int .u16 0] := by kernel_rfl
theorem sz49 : szT Tryz.prog 49 = some 2 := by kernel_rfl
theorem bu53_0_1_4 (v0_0 v1_0 v4_0 v4_1 : V) : buildV Tryz.prog 53 [(0, [v0_0]), (1, [v1_0]), (4, [v4_0, v4_1])] = some (.agg [v0_0, v1_0, .int .u64 0, .int .u64 0, .int .u16 0, .int .u16 0, .str [], .nilslice, .int .u16 0, .str [], .str [], v4_0, v4_1, .int .u32 0, .int .u16 0, .int .u16 0, .int .u16 0]) := by kernel_rfl
theorem ia25 (k o n m : Nat) (kd : IntKind) (i : Int) : indexAddrV Tryz.prog 25 (.slice k o n m) (.int kd i) = if 0 ≤ i ∧ i < n then some (.ptr k (o + i.toNat * 1)) else none := indexAddr_slice (e := 5) (by kernel_rfl) (by kernel_rfl) k o n m kd i
theorem bu53_0_1 (v0_0 v1_0 : V) : buildV Tryz.prog 53 [(0, [v0_0]), (1, [v1_0])] = some (.agg [v0_0, v1_0, .int .u64 0, .int .u64 0, .int .u16 0, .int .u16 0, .str [], .nilslice, .int .u16 0, .str [], .str [], .int .u16 0, .int .u16 0, .int .u32 0, .int .u16 0, .int .u16 0, .int .u16 0]) := by kernel_rfl
theorem bu53_0 (v0_0 : V) : buildV Tryz.prog 53 [(0, [v0_0])] = some (.agg [v0_0, .bool false, .int .u64 0, .int .u64 0, .int .u16 0, .int .u16 0, .str [], .nilslice, .int .u16 0, .str [], .str [], .int .u16 0, .int .u16 0, .int .u32 0, .int .u16 0, .int .u16 0, .int .u16 0]) := by kernel_rfl
theorem fa71_5 (k o : Nat) : fieldAddrV Tryz.prog 71 (.ptr k o) 5 = some (.ptr k (o + 12)) := by kernel_rfl
theorem fa71_7 (k o : Nat) : fieldAddrV Tryz.prog 71 (.ptr k o) 7 = some (.ptr k (o + 14)) := by kernel_rfl
theorem ze51 : zeroL Tryz.prog 51 = some [.int .u32 0, .int .u16 0, .int .u16 0, .int .u16 0] := by kernel_rfl
theorem sz51 : szT Tryz.prog 51 = some 4 := by kernel_rfl
theorem fa51_2 (k o : Nat) : fieldAddrV Tryz.prog 51 (.ptr k o) 2 = some (.ptr k (o + 2)) := by kernel_rfl
theorem fa51_1 (k o : Nat) : fieldAddrV Tryz.prog 51 (.ptr k o) 1 = some (.ptr k (o + 1)) := by kernel_rfl
theorem fa71_8 (k o : Nat) : fieldAddrV Tryz.prog 71 (.ptr k o) 8 = some (.ptr k (o + 15)) := by kernel_rfl
theorem bu53_0_1_5 (v0_0 v1_0 v5_0 v5_1 v5_2 v5_3 : V) : buildV Tryz.prog 53 [(0, [v0_0]), (1, [v1_0]), (5, [v5_0, v5_1, v5_2, v5_3])] = some (.agg [v0_0, v1_0, .int .u64 0, .int .u64 0, .int .u16 0, .int .u16 0, .str [], .nilslice, .int .u16 0, .str [], .str [], .int .u16 0, .int .u16 0, v5_0, v5_1, v5_2, v5_3]) := by kernel_rfl
theorem fa71_1 (k o : Nat) : fieldAddrV Tryz.prog 71 (.ptr k o) 1 = some (.ptr k (o + 1)) := by kernel_rfl
theorem fa49_1 (k o : Nat) : fieldAddrV Tryz.prog 49 (.ptr k o) 1 = some (.ptr k (o + 1)) := by kernel_rfl
theorem fa71_11 (k o : Nat) : fieldAddrV Tryz.prog 71 (.ptr k o) 11 = some (.ptr k (o + 18)) := by kernel_rfl
theorem ze47 : zeroL Tryz.prog 47 = some [.int .u16 0, .str [], .str []] := by kernel_rfl
theorem sz47 : szT Tryz.prog 47 = some 3 := by kernel_rfl
theorem bu53_0_1_3 (v0_0 v1_0 v3_0 v3_1 v3_2 : V) : buildV Tryz.prog 53 [(0, [v0_0]), (1, [v1_0]), (3, [v3_0, v3_1, v3_2])] = some (.agg [v0_0, v1_0, .int .u64 0, .int .u64 0, .int .u16 0, .int .u16 0, .str [], .nilslice, v3_0, v3_1, v3_2, .int .u16 0, .int .u16 0, .int .u32 0, .int .u16 0, .int .u16 0, .int .u16 0]) := by kernel_rfl
theorem fa71_12 (k o : Nat) : fieldAddrV Tryz.prog 71 (.ptr k o) 12 = some (.ptr k (o + 19)) := by kernel_rfl
theorem fa75_0 (k o : Nat) : fieldAddrV Tryz.prog 75 (.ptr k o) 0 = some (.ptr k (o + 0)) := by kernel_rfl
theorem fa75_1 (k o : Nat) : fieldAddrV Tryz.prog 75 (.ptr k o) 1 = some (.ptr k (o + 1)) := by kernel_rfl
theorem fa75_2 (k o : Nat) : fieldAddrV Tryz.prog 75 (.ptr k o) 2 = some (.ptr k (o + 2)) := by kernel_rfl
theorem fa75_4 (k o : Nat) : fieldAddrV Tryz.prog 75 (.ptr k o) 4 = some (.ptr k (o + 11)) := by kernel_rfl
theorem bs28_1 (v0_0 v0_1 v0_2 v0_3 v0_4 v0_5 v0_6 v0_7 v0_8 v0_9 : V) : buildSliceL Tryz.prog 28 1 [(0, [v0_0, v0_1, v0_2, v0_3, v0_4, v0_5, v0_6, v0_7, v0_8, v0_9])] = some ([v0_0, v0_1, v0_2, v0_3, v0_4, v0_5, v0_6, v0_7, v0_8, v0_9], 67) := by kernel_rfl
theorem fa75_5 (k o : Nat) : fieldAddrV Tryz.prog 75 (.ptr k o) 5 = some (.ptr k (o + 12)) := by kernel_rfl
theorem fa67_8 (k o : Nat) : fieldAddrV Tryz.prog 67 (.ptr k o) 8 = some (.ptr k (o + 8)) := by kernel_rfl
theorem bu108_0_1 (v0_0 v1_0 : V) : buildV Tryz.prog 108 [(0, [v0_0]), (1, [v1_0])] = some (.agg [v0_0, v1_0]) := by kernel_rfl
theorem bs95_1 (v0_0 v0_1 : V) : buildSliceL Tryz.prog 95 1 [(0, [v0_0, v0_1])] = some ([v0_0, v0_1], 108) := by kernel_rfl
theorem ap95 : apI Tryz.prog 95 = some (108, 2, 2) := by kernel_rfl
theorem by25 : byteS Tryz.prog 25 = true := by kernel_rfl
theorem el25 : elemS Tryz.prog 25 = 5 := by kernel_rfl
theorem ty45 : tyR Tryz.prog 45 = some (6, true) := by kernel_rfl
theorem bs25_1 (v0_0 : V) : buildSliceL Tryz.prog 25 1 [(0, [v0_0])] = some ([v0_0], 5) := by kernel_rfl
theorem ap25 : apI Tryz.prog 25 = some (5, 1, 1) := by kernel_rfl
theorem sz9 : szT Tryz.prog 9 = some 1 := by kernel_rfl
theorem sz22 : szT Tryz.prog 22 = some 1 := by kernel_rfl
theorem sz5 : szT Tryz.prog 5 = some 1 := by kernel_rfl
theorem sz25 : szT Tryz.prog 25 = some 1 := by kernel_rfl
theorem sz24 : szT Tryz.prog 24 = some 1 := by kernel_rfl
theorem ze45 : zeroL Tryz.prog 45 = some [.int .u64 0, .int .u64 0, .int .u16 0, .int .u16 0, .str [], .nilslice] := by kernel_rfl
theorem sz45 : szT Tryz.prog 45 = some 6 := by kernel_rfl
theorem bu53_0_1_2 (v0_0 v1_0 v2_0 v2_1 v2_2 v2_3 v2_4 v2_5 : V) : buildV Tryz.prog 53 [(0, [v0_0]), (1, [v1_0]), (2, [v2_0, v2_1, v2_2, v2_3, v2_4, v2_5])] = some (.agg [v0_0, v1_0, v2_0, v2_1, v2_2, v2_3, v2_4, v2_5, .int .u16 0, .str [], .str [], .int .u16 0, .int .u16 0, .int .u32 0, .int .u16 0, .int .u16 0, .int .u16 0]) := by kernel_rfl
theorem bu49 : buildV Tryz.prog 49 [] = some (.agg [.int .u16 0, .int .u16 0]) := by kernel_rfl
theorem bu121_0 (v0_0 : V) : buildV Tryz.prog 121 [(0, [v0_0])] = some (.agg [v0_0, .int .i64 0]) := by kernel_rfl
theorem fa121_1 (k o : Nat) : fieldAddrV Tryz.prog 121 (.ptr k o) 1 = some (.ptr k (o + 1)) := by kernel_rfl
theorem ty34 : tyR Tryz.prog 34 = some (1, false) := by kernel_rfl
theorem fa121_0 (k o : Nat) : fieldAddrV Tryz.prog 121 (.ptr k o) 0 = some (.ptr k (o + 0)) := by kernel_rfl
theorem sz34 : szT Tryz.prog 34 = some 1 := by kernel_rfl
theorem bu51_0_1_2 (v0_0 v1_0 v2_0 : V) : buildV Tryz.prog 51 [(0, [v0_0]), (1, [v1_0]), (2, [v2_0])] = some (.agg [v0_0, v1_0, v2_0, .int .u16 0]) := by kernel_rfl
theorem fa51_3 (k o : Nat) : fieldAddrV Tryz.prog 51 (.ptr k o) 3 = some (.ptr k (o + 3)) := by kernel_rfl
theorem bu51 : buildV Tryz.prog 51 [] = some (.agg [.int .u32 0, .int .u16 0, .int .u16 0, .int .u16 0]) := by kernel_rfl
theorem fa71_9 (k o : Nat) : fieldAddrV Tryz.prog 71 (.ptr k o) 9 = some (.ptr k (o + 16)) := by kernel_rfl
theorem ia95 (k o n m : Nat) (kd : IntKind) (i : Int) : indexAddrV Tryz.prog 95 (.slice k o n m) (.int kd i) = if 0 ≤ i ∧ i < n then some (.ptr k (o + i.toNat * 2)) else none := indexAddr_slice (e := 108) (by kernel_rfl) (by kernel_rfl) k o n m kd i
theorem ty108 : tyR Tryz.prog 108 = some (2, true) := by kernel_rfl
theorem ze108 : zeroL Tryz.prog 108 = some [.int .u8 0, .bool false] := by kernel_rfl
theorem sz108 : szT Tryz.prog 108 = some 2 := by kernel_rfl
theorem ze25 : zeroL Tryz.prog 25 = some [.nilslice] := by kernel_rfl
theorem fa108_0 (k o : Nat) : fieldAddrV Tryz.prog 108 (.ptr k o) 0 = some (.ptr k (o + 0)) := by kernel_rfl
theorem bu134 : buildV Tryz.prog 134 [] = some (.agg [.int .i64 0, .int .i64 0, .int .u64 0, .str [], .bool false, .int .i64 0, .int .i64 0, .int .i64 0, .int .i64 0, .int .i64 0, .int .i64 0, .int .i64 0]) := by kernel_rfl
theorem bs92_1 (v0_0 v0_1 v0_2 v0_3 v0_4 v0_5 v0_6 v0_7 v0_8 v0_9 v0_10 v0_11 : V) : buildSliceL Tryz.prog 92 1 [(0, [v0_0, v0_1, v0_2, v0_3, v0_4, v0_5, v0_6, v0_7, v0_8, v0_9, v0_10, v0_11])] = some ([v0_0, v0_1, v0_2, v0_3, v0_4, v0_5, v0_6, v0_7, v0_8, v0_9, v0_10, v0_11], 134) := by kernel_rfl
theorem ap92 : apI Tryz.prog 92 = some (134, 12, 104) := by kernel_rfl
theorem ze134 : zeroL Tryz.prog 134 = some [.int .i64 0, .int .i64 0, .int .u64 0, .str [], .bool false, .int .i64 0, .int .i64 0, .int .i64 0, .int .i64 0, .int .i64 0, .int .i64 0, .int .i64 0] := by kernel_rfl
theorem sz134 : szT Tryz.prog 134 = some 12 := by kernel_rfl
theorem ty134 : tyR Tryz.prog 134 = some (12, true) := by kernel_rfl
theorem bu134_0_3 (v0_0 v3_0 : V) : buildV Tryz.prog 134 [(0, [v0_0]), (3, [v3_0])] = some (.agg [v0_0, .int .i64 0, .int .u64 0, v3_0, .bool false, .int .i64 0, .int .i64 0, .int .i64 0, .int .i64 0, .int .i64 0, .int .i64 0, .int .i64 0]) := by kernel_rfl
theorem bu47_0 (v0_0 : V) : buildV Tryz.prog 47 [(0, [v0_0])] = some (.agg [v0_0, .str [], .str []]) := by kernel_rfl
theorem bu47 : buildV Tryz.prog 47 [] = some (.agg [.int .u16 0, .str [], .str []]) := by kernel_rfl
theorem fa47_1 (k o : Nat) : fieldAddrV Tryz.prog 47 (.ptr k o) 1 = some (.ptr k (o + 1)) := by kernel_rfl
theorem fa47_2 (k o : Nat) : fieldAddrV Tryz.prog 47 (.ptr k o) 2 = some (.ptr k (o + 2)) := by kernel_rfl
theorem bu142_0 (v0_0 : V) : buildV Tryz.prog 142 [(0, [v0_0])] = some (.agg [v0_0, .int .i64 0]) := by kernel_rfl
theorem fa142_1 (k o : Nat) : fieldAddrV Tryz.prog 142 (.ptr k o) 1 = some (.ptr k (o + 1)) := by kernel_rfl
theorem bu67_0 (v0_0 : V) : buildV Tryz.prog 67 [(0, [v0_0])] = some (.agg [v0_0, .str [], .str [], .str [], .str [], .int .u16 0, .int .u32 0, .int .u8 0, .int .u16 0, .int .u8 0]) := by kernel_rfl
theorem fa67_5 (k o : Nat) : fieldAddrV Tryz.prog 67 (.ptr k o) 5 = some (.ptr k (o + 5)) := by kernel_rfl
theorem fa67_6 (k o : Nat) : fieldAddrV Tryz.prog 67 (.ptr k o) 6 = some (.ptr k (o + 6)) := by kernel_rfl
theorem fa67_9 (k o : Nat) : fieldAddrV Tryz.prog 67 (.ptr k o) 9 = some (.ptr k (o + 9)) := by kernel_rfl
theorem bu67 : buildV Tryz.prog 67 [] = some (.agg [.str [], .str [], .str [], .str [], .str [], .int .u16 0, .int .u32 0, .int .u8 0, .int .u16 0, .int .u8 0]) := by kernel_rfl
theorem bu51_0 (v0_0 : V) : buildV Tryz.prog 51 [(0, [v0_0])] = some (.agg [v0_0, .int .u16 0, .int .u16 0, .int .u16 0]) := by kernel_rfl
theorem fa142_0 (k o : Nat) : fieldAddrV Tryz.prog 142 (.ptr k o) 0 = some (.ptr k (o + 0)) := by kernel_rfl
-- eq on type 25
theorem bs25_0 : buildSliceL Tryz.prog 25 0 [] = some ([], 5) := by kernel_rfl
theorem ty115 : tyR Tryz.prog 115 = some (256, true) := by kernel_rfl
theorem ze115 : zeroL Tryz.prog 115 = some [.str [], .str [], .str [], .str [], .str [], .str [], .str [], .str [], .str [], .str [], .str [], .str [], .str [], .str [], .str [], .str [], .str [], .str [], .str [], .str [], .str [], .str [], .str [], .str [], .str [], .str [], .str [], .str [], .str [], .str [], .str [], .str [], .str [], .str [], .str [], .str [], .str [], .str [], .str [], .str [], .str [], .str [], .str [], .str [], .str [], .str [], .str [], .str [], .str [], .str [], .str [], .str [], .str [], .str [], .str [], .str [], .str [], .str [], .str [], .str [], .str [], .str [], .str [], .str [], .str [], .str [], .str [], .str [], .str [], .str [], .str [], .str [], .str [], .str [], .str [], .str [], .str [], .str [], .str [], .str [], .str [], .str [], .str [], .str [], .str [], .str [], .str [], .str [], .str [], .str [], .str [], .str [], .str [], .str [], .str [], .str [], .str [], .str [], .str [], .str [], .str [], .str [], .str [], .str [], .str [], .str [], .str [], .str [], .str [], .str [], .str [], .str [], .str [], .str [], .str [], .str [], .str [], .str [], .str [], .str [], .str [], .str [], .str [], .str [], .str [], .str [], .str [], .str [], .str [], .str [], .str [], .str [], .str [], .str [], .str [], .str [], .str [], .str [], .str [], .str [], .str [], .str [], .str [], .str [], .str [], .str [], .str [], .str [], .str [], .str [], .str [], .str [], .str [], .str [], .str [], .str [], .str [], .str [], .str [], .str [], .str [], .str [], .str [], .str [], .str [], .str [], .str [], .str [], .str [], .str [], .str [], .str [], .str [], .str [], .str [], .str [], .str [], .str [], .str [], .str [], .str [], .str [], .str [], .str [], .str [], .str [], .str [], .str [], .str [], .str [], .str [], .str [], .str [], .str [], .str [], .str [], .str [], .str [], .str [], .str [], .str [], .str [], .str [], .str [], .str [], .str [], .str [], .str [], .str [], .str [], .str [], .str [], .str [], .str [], .str [], .str [], .str [], .str [], .str [], .str [], .str [], .str [], .str [], .str [], .str [], .str [], .str [], .str [], .str [], .str [], .str [], .str [], .str [], .str [], .str [], .str [], .str [], .str [], .str [], .str [], .str [], .str [], .str [], .str [], .str [], .str [], .str [], .str [], .str [], .str [], .str [], .str [], .str [], .str [], .str [], .str []] := by kernel_rfl
theorem bu115_0_1_2_3_4_5_6_7_8_9_10_11_12_13_15_16_245_246_247_248_249_250_251_252_253_254_255 (v0_0 v1_0 v2_0 v3_0 v4_0 v5_0 v6_0 v7_0 v8_0 v9_0 v10_0 v11_0 v12_0 v13_0 v15_0 v16_0 v245_0 v246_0 v247_0 v248_0 v249_0 v250_0 v251_0 v252_0 v253_0 v254_0 v255_0 : V) : buildV Tryz.prog 115 [(0, [v0_0]), (1, [v1_0]), (2, [v2_0]), (3, [v3_0]), (4, [v4_0]), (5, [v5_0]), (6, [v6_0]), (7, [v7_0]), (8, [v8_0]), (9, [v9_0]), (10, [v10_0]), (11, [v11_0]), (12, [v12_0]), (13, [v13_0]), (15, [v15_0]), (16, [v16_0]), (245, [v245_0]), (246, [v246_0]), (247, [v247_0]), (248, [v248_0]), (249, [v249_0]), (250, [v250_0]), (251, [v251_0]), (252, [v252_0]), (253, [v253_0]), (254, [v254_0]), (255, [v255_0])] = some (.agg [v0_0, v1_0, v2_0, v3_0, v4_0, v5_0, v6_0, v7_0, v8_0, v9_0, v10_0, v11_0, v12_0, v13_0, .str [], v15_0, v16_0, .str [], .str [], .str [], .str [], .str [], .str [], .str [], .str [], .str [], .str [], .str [], .str [], .str [], .str [], .str [], .str [], .str [], .str [], .str [], .str [], .str [], .str [], .str [], .str [], .str [], .str [], .str [], .str [], .str [], .str [], .str [], .str [], .str [], .str [], .str [], .str [], .str [], .str [], .str [], .str [], .str [], .str [], .str [], .str [], .str [], .str [], .str [], .str [], .str [], .str [], .str [], .str [], .str [], .str [], .str [], .str [], .str [], .str [], .str [], .str [], .str [], .str [], .str [], .str [], .str [], .str [], .str [], .str [], .str [], .str [], .str [], .str [], .str [], .str [], .str [], .str [], .str [], .str [], .str [], .str [], .str [], .str [], .str [], .str [], .str [], .str [], .str [], .str [], .str [], .str [], .str [], .str [], .str [], .str [], .str [], .str [], .str [], .str [], .str [], .str [], .str [], .str [], .str [], .str [], .str [], .str [], .str [], .str [], .str [], .str [], .str [], .str [], .str [], .str [], .str [], .str [], .str [], .str [], .str [], .str [], .str [], .str [], .str [], .str [], .str [], .str [], .str [], .str [], .str [], .str [], .str [], .str [], .str [], .str [], .str [], .str [], .str [], .str [], .str [], .str [], .str [], .str [], .str [], .str [], .str [], .str [], .str [], .str [], .str [], .str [], .str [], .str [], .str [], .str [], .str [], .str [], .str [], .str [], .str [], .str [], .str [], .str [], .str [], .str [], .str [], .str [], .str [], .str [], .str [], .str [], .str [], .str [], .str [], .str [], .str [], .str [], .str [], .str [], .str [], .str [], .str [], .str [], .str [], .str [], .str [], .str [], .str [], .str [], .str [], .str [], .str [], .str [], .str [], .str [], .str [], .str [], .str [], .str [], .str [], .str [], .str [], .str [], .str [], .str [], .str [], .str [], .str [], .str [], .str [], .str [], .str [], .str [], .str [], .str [], .str [], .str [], .str [], .str [], .str [], .str [], .str [], .str [], .str [], .str [], .str [], .str [], .str [], .str [], v245_0, v246_0, v247_0, v248_0, v249_0, v250_0, v251_0, v252_0, v253_0, v254_0, v255_0]) := by kernel_rfl
theorem sz115 : szT Tryz.prog 115 = some 256 := by kernel_rfl
theorem bs25_2 (v0_0 v1_0 : V) : buildSliceL Tryz.prog 25 2 [(0, [v0_0]), (1, [v1_0])] = some ([v0_0, v1_0], 5) := by kernel_rfl
theorem bu45_0_1_2_3 (v0_0 v1_0 v2_0 v3_0 : V) : buildV Tryz.prog 45 [(0, [v0_0]), (1, [v1_0]), (2, [v2_0]), (3, [v3_0])] = some (.agg [v0_0, v1_0, v2_0, v3_0, .str [], .nilslice]) := by kernel_rfl
theorem bu45 : buildV Tryz.prog 45 [] = some (.agg [.int .u64 0, .int .u64 0, .int .u16 0, .int .u16 0, .str [], .nilslice]) := by kernel_rfl
theorem bu49_0_1 (v0_0 v1_0 : V) : buildV Tryz.prog 49 [(0, [v0_0]), (1, [v1_0])] = some (.agg [v0_0, v1_0]) := by kernel_rfl
theorem fa108_1 (k o : Nat) : fieldAddrV Tryz.prog 108 (.ptr k o) 1 = some (.ptr k (o + 1)) := by kernel_rfl
theorem ze132 : zeroL Tryz.prog 132 = some [.bool false, .int .i64 0, .int .i64 0, .int .i64 0, .int .i64 0, .int .i64 0, .int .i64 0, .int .i64 0] := by kernel_rfl
theorem sz132 : szT Tryz.prog 132 = some 8 := by kernel_rfl
theorem ty132 : tyR Tryz.prog 132 = some (8, true) := by kernel_rfl
theorem bu134_0_4 (v0_0 v4_0 v4_1 v4_2 v4_3 v4_4 v4_5 v4_6 v4_7 : V) : buildV Tryz.prog 134 [(0, [v0_0]), (4, [v4_0, v4_1, v4_2, v4_3, v4_4, v4_5, v4_6, v4_7])] = some (.agg [v0_0, .int .i64 0, .int .u64 0, .str [], v4_0, v4_1, v4_2, v4_3, v4_4, v4_5, v4_6, v4_7]) := by kernel_rfl
theorem bu134_0_1 (v0_0 v1_0 : V) : buildV Tryz.prog 134 [(0, [v0_0]), (1, [v1_0])] = some (.agg [v0_0, v1_0, .int .u64 0, .str [], .bool false, .int .i64 0, .int .i64 0, .int .i64 0, .int .i64 0, .int .i64 0, .int .i64 0, .int .i64 0]) := by kernel_rfl
theorem bu134_0_2 (v0_0 v2_0 : V) : buildV Tryz.prog 134 [(0, [v0_0]), (2, [v2_0])] = some (.agg [v0_0, .int .i64 0, v2_0, .str [], .bool false, .int .i64 0, .int .i64 0, .int .i64 0, .int .i64 0, .int .i64 0, .int .i64 0, .int .i64 0]) := by kernel_rfl
theorem bs80_14 (v0_0 v1_0 v2_0 v3_0 v4_0 v5_0 v6_0 v7_0 v8_0 v9_0 v10_0 v11_0 v12_0 v13_0 : V) : buildSliceL Tryz.prog 80 14 [(0, [v0_0]), (1, [v1_0]), (2, [v2_0]), (3, [v3_0]), (4, [v4_0]), (5, [v5_0]), (6, [v6_0]), (7, [v7_0]), (8, [v8_0]), (9, [v9_0]), (10, [v10_0]), (11, [v11_0]), (12, [v12_0]), (13, [v13_0])] = some ([v0_0, v1_0, v2_0, v3_0, v4_0, v5_0, v6_0, v7_0, v8_0, v9_0, v10_0, v11_0, v12_0, v13_0], 9) := by kernel_rfl
theorem bs80_11 (v0_0 v1_0 v2_0 v3_0 v4_0 v5_0 v6_0 v7_0 v8_0 v9_0 v10_0 : V) : buildSliceL Tryz.prog 80 11 [(0, [v0_0]), (1, [v1_0]), (2, [v2_0]), (3, [v3_0]), (4, [v4_0]), (5, [v5_0]), (6, [v6_0]), (7, [v7_0]), (8, [v8_0]), (9, [v9_0]), (10, [v10_0])] = some ([v0_0, v1_0, v2_0, v3_0, v4_0, v5_0, v6_0, v7_0, v8_0, v9_0, v10_0], 9) := by kernel_rfl
theorem bu49_0 (v0_0 : V) : buildV Tryz.prog 49 [(0, [v0_0])] = some (.agg [v0_0, .int .u16 0]) := by kernel_rfl
theorem bu45_0 (v0_0 : V) : buildV Tryz.prog 45 [(0, [v0_0])] = some (.agg [v0_0, .int .u64 0, .int .u16 0, .int .u16 0, .str [], .nilslice]) := by kernel_rfl
theorem sz43 : szT Tryz.prog 43 = some 1 := by kernel_rfl
theorem bu166_0 (v0_0 : V) : buildV Tryz.prog 166 [(0, [v0_0])] = some (.agg [v0_0, .int .i64 0]) := by kernel_rfl
theorem bs168_5 (v0_0 v1_0 v2_0 v3_0 v4_0 : V) : buildSliceL Tryz.prog 168 5 [(0, [v0_0]), (1, [v1_0]), (2, [v2_0]), (3, [v3_0]), (4, [v4_0])] = some ([v0_0, v1_0, v2_0, v3_0, v4_0], 167) := by kernel_rfl
theorem ia168 (k o n m : Nat) (kd : IntKind) (i : Int) : indexAddrV Tryz.prog 168 (.slice k o n m) (.int kd i) = if 0 ≤ i ∧ i < n then some (.ptr k (o + i.toNat * 1)) else none := indexAddr_slice (e := 167) (by kernel_rfl) (by kernel_rfl) k o n m kd i
theorem ty167 : tyR Tryz.prog 167 = some (1, false) := by kernel_rfl
theorem fa166_0 (k o : Nat) : fieldAddrV Tryz.prog 166 (.ptr k o) 0 = some (.ptr k (o + 0)) := by kernel_rfl
theorem fa166_1 (k o : Nat) : fieldAddrV Tryz.prog 166 (.ptr k o) 1 = some (.ptr k (o + 1)) := by kernel_rfl
theorem bs169_4 (v0_0 v1_0 v2_0 v3_0 : V) : buildSliceL Tryz.prog 169 4 [(0, [v0_0]), (1, [v1_0]), (2, [v2_0]), (3, [v3_0])] = some ([v0_0, v1_0, v2_0, v3_0], 3) := by kernel_rfl
theorem bs169_3 (v0_0 v1_0 v2_0 : V) : buildSliceL Tryz.prog 169 3 [(0, [v0_0]), (1, [v1_0]), (2, [v2_0])] = some ([v0_0, v1_0, v2_0], 3) := by kernel_rfl
theorem ia169 (k o n m : Nat) (kd : IntKind) (i : Int) : indexAddrV Tryz.prog 169 (.slice k o n m) (.int kd i) = if 0 ≤ i ∧ i < n then some (.ptr k (o + i.toNat * 1)) else none := indexAddr_slice (e := 3) (by kernel_rfl) (by kernel_rfl) k o n m kd i
theorem bu132_0_3_4_5_6_7 (v0_0 v3_0 v4_0 v5_0 v6_0 v7_0 : V) : buildV Tryz.prog 132 [(0, [v0_0]), (3, [v3_0]), (4, [v4_0]), (5, [v5_0]), (6, [v6_0]), (7, [v7_0])] = some (.agg [v0_0, .int .i64 0, .int .i64 0, v3_0, v4_0, v5_0, v6_0, v7_0]) := by kernel_rfl
theorem bu132_1_2_3_4_5_6_7 (v1_0 v2_0 v3_0 v4_0 v5_0 v6_0 v7_0 : V) : buildV Tryz.prog 132 [(1, [v1_0]), (2, [v2_0]), (3, [v3_0]), (4, [v4_0]), (5, [v5_0]), (6, [v6_0]), (7, [v7_0])] = some (.agg [.bool false, v1_0, v2_0, v3_0, v4_0, v5_0, v6_0, v7_0]) := by kernel_rfl
theorem bu132 : buildV Tryz.prog 132 [] = some (.agg [.bool false, .int .i64 0, .int .i64 0, .int .i64 0, .int .i64 0, .int .i64 0, .int .i64 0, .int .i64 0]) := by kernel_rfl
theorem bu134_0 (v0_0 : V) : buildV Tryz.prog 134 [(0, [v0_0])] = some (.agg [v0_0, .int .i64 0, .int .u64 0, .str [], .bool false, .int .i64 0, .int .i64 0, .int .i64 0, .int .i64 0, .int .i64 0, .int .i64 0, .int .i64 0]) := by kernel_rfl
theorem fa134_1 (k o : Nat) : fieldAddrV Tryz.prog 134 (.ptr k o) 1 = some (.ptr k (o + 1)) := by kernel_rfl
theorem sz2 : szT Tryz.prog 2 = some 1 := by kernel_rfl
theorem fa134_2 (k o : Nat) : fieldAddrV Tryz.prog 134 (.ptr k o) 2 = some (.ptr k (o + 2)) := by kernel_rfl
theorem fa134_4 (k o : Nat) : fieldAddrV Tryz.prog 134 (.ptr k o) 4 = some (.ptr k (o + 4)) := by kernel_rfl
theorem fa134_3 (k o : Nat) : fieldAddrV Tryz.prog 134 (.ptr k o) 3 = some (.ptr k (o + 3)) := by kernel_rfl
theorem fa132_1 (k o : Nat) : fieldAddrV Tryz.prog 132 (.ptr k o) 1 = some (.ptr k (o + 1)) := by kernel_rfl
theorem fa132_2 (k o : Nat) : fieldAddrV Tryz.prog 132 (.ptr k o) 2 = some (.ptr k (o + 2)) := by kernel_rfl
theorem fa132_3 (k o : Nat) : fieldAddrV Tryz.prog 132 (.ptr k o) 3 = some (.ptr k (o + 3)) := by kernel_rfl
theorem fa132_0 (k o : Nat) : fieldAddrV Tryz.prog 132 (.ptr k o) 0 = some (.ptr k (o + 0)) := by kernel_rfl
theorem bu132_0 (v0_0 : V) : buildV Tryz.prog 132 [(0, [v0_0])] = some (.agg [v0_0, .int .i64 0, .int .i64 0, .int .i64 0, .int .i64 0, .int .i64 0, .int .i64 0, .int .i64 0]) := by kernel_rfl
-- eq on type 132
theorem bu132_1_2_3 (v1_0 v2_0 v3_0 : V) : buildV Tryz.prog 132 [(1, [v1_0]), (2, [v2_0]), (3, [v3_0])] = some (.agg [.bool false, v1_0, v2_0, v3_0, .int .i64 0, .int .i64 0, .int .i64 0, .int .i64 0]) := by kernel_rfl
theorem fa132_4 (k o : Nat) : fieldAddrV Tryz.prog 132 (.ptr k o) 4 = some (.ptr k (o + 4)) := by kernel_rfl
theorem fa132_5 (k o : Nat) : fieldAddrV Tryz.prog 132 (.ptr k o) 5 = some (.ptr k (o + 5)) := by kernel_rfl
theorem fa132_6 (k o : Nat) : fieldAddrV Tryz.prog 132 (.ptr k o) 6 = some (.ptr k (o + 6)) := by kernel_rfl
theorem fa132_7 (k o : Nat) : fieldAddrV Tryz.prog 132 (.ptr k o) 7 = some (.ptr k (o + 7)) := by kernel_rfl
noncomputable def factsT := And.intro @Tryz.underlying2 <| And.intro @Tryz.underlying3 <| And.intro @Tryz.underlying4 <| And.intro @Tryz.underlying5 <| And.intro @Tryz.underlying9 <| And.intro @Tryz.underlying22 <| And.intro @Tryz.underlying23 <| And.intro @Tryz.underlying24 <| And.intro @Tryz.underlying25 <| And.intro @Tryz.underlying27 <| And.intro @Tryz.underlying28 <| And.intro @Tryz.underlying29 <| And.intro @Tryz.underlying30 <| And.intro @Tryz.underlying33 <| And.intro @Tryz.underlying34 <| And.intro @Tryz.underlying37 <| And.intro @Tryz.underlying43 <| And.intro @Tryz.underlying45 <| And.intro @Tryz.underlying47 <| And.intro @Tryz.underlying49 <| And.intro @Tryz.underlying51 <| And.intro @Tryz.underlying53 <| And.intro @Tryz.underlying67 <| And.intro @Tryz.underlying69 <| And.intro @Tryz.underlying80 <| And.intro @Tryz.underlying92 <| And.intro @Tryz.underlying95 <| And.intro @Tryz.underlying108 <| And.intro @Tryz.underlying115 <| And.intro @Tryz.underlying119 <| And.intro @Tryz.underlying132 <| And.intro @Tryz.underlying134 <| And.intro @Tryz.underlying140 <| And.intro @Tryz.underlying151 <| And.intro @Tryz.underlying164 <| And.intro @Tryz.underlying168 <| And.intro @Tryz.underlying169 <| And.intro @ty27 <| And.intro @ps33 <| And.intro @ps37 <| And.intro @ia30 <| And.intro @ty4 <| And.intro @ia29 <| And.intro @ty25 <| And.intro @ze53 <| And.intro @sz53 <| And.intro @ty53 <| And.intro @bu27_0 <| And.intro @fa53_0 <| And.intro @ty3 <| And.intro @fa53_1 <| And.intro @fa53_2 <| And.intro @fa45_2 <| And.intro @ty24 <| And.intro @fa27_0 <| And.intro @ty5 <| And.intro @ia28 <| And.intro @ty67 <| And.intro @ze67 <| And.intro @sz67 <| And.intro @bu71_0_1_12_11 <| And.intro @fa71_6 <| And.intro @sz28 <| And.intro @bu75_0_1_2_3 <| And.intro @fa75_3 <| And.intro @sz3 <| And.intro @fa75_6 <| And.intro @ty28 <| And.intro @ap28 <| And.intro @fa71_2 <| And.intro @ty69 <| And.intro @fa71_4 <| And.intro @sz4 <| And.intro @bu53 <| And.intro @fa45_0 <| And.intro @ty43 <| And.intro @fa45_1 <| And.intro @fa45_3 <| And.intro @fa45_4 <| And.intro @ty9 <| And.intro @fa45_5 <| And.intro @fa53_3 <| And.intro @ty47 <| And.intro @fa53_4 <| And.intro @ty49 <| And.intro @fa53_5 <| And.intro @ty51 <| And.intro @fa71_3 <| And.intro @fa71_10 <| And.intro @fa75_7 <| And.intro @bu45_2 <| And.intro @ze27 <| And.intro @sz27 <| And.intro @fa27_1 <| And.intro @fa27_2 <| And.intro @ty22 <| And.intro @fa27_3 <| And.intro @fa27_4 <| And.intro @fa27_5 <| And.intro @fa27_6 <| And.intro @fa27_7 <| And.intro @fa67_0 <| And.intro @fa67_1 <| And.intro @fa67_2 <| And.intro @fa67_3 <| And.intro @fa67_4 <| And.intro @bs80_5 <| And.intro @ia80 <| And.intro @fa67_7 <| And.intro @bs28_0 <| And.intro @sz69 <| And.intro @fa71_0 <| And.intro @ty23 <| And.intro @ze49 <| And.intro @sz49 <| And.intro @bu53_0_1_4 <| And.intro @ia25 <| And.intro @bu53_0_1 <| And.intro @bu53_0 <| And.intro @fa71_5 <| And.intro @fa71_7 <| And.intro @ze51 <| And.intro @sz51 <| And.intro @fa51_2 <| And.intro @fa51_1 <| And.intro @fa71_8 <| And.intro @bu53_0_1_5 <| And.intro @fa71_1 <| And.intro @fa49_1 <| And.intro @fa71_11 <| And.intro @ze47 <| And.intro @sz47 <| And.intro @bu53_0_1_3 <| And.intro @fa71_12 <| And.intro @fa75_0 <| And.intro @fa75_1 <| And.intro @fa75_2 <| And.intro @fa75_4 <| And.intro @bs28_1 <| And.intro @fa75_5 <| And.intro @fa67_8 <| And.intro @bu108_0_1 <| And.intro @bs95_1 <| And.intro @ap95 <| And.intro @by25 <| And.intro @el25 <| And.intro @ty45 <| And.intro @bs25_1 <| And.intro @ap25 <| And.intro @sz9 <| And.intro @sz22 <| And.intro @sz5 <| And.intro @sz25 <| And.intro @sz24 <| And.intro @ze45 <| And.intro @sz45 <| And.intro @bu53_0_1_2 <| And.intro @bu49 <| And.intro @bu121_0 <| And.intro @fa121_1 <| And.intro @ty34 <| And.intro @fa121_0 <| And.intro @sz34 <| And.intro @bu51_0_1_2 <| And.intro @fa51_3 <| And.intro @bu51 <| And.intro @fa71_9 <| And.intro @ia95 <| And.intro @ty108 <| And.intro @ze108 <| And.intro @sz108 <| And.intro @ze25 <| And.intro @fa108_0 <| And.intro @bu134 <| And.intro @bs92_1 <| And.intro @ap92 <| And.intro @ze134 <| And.intro @sz134 <| And.intro @ty134 <| And.intro @bu134_0_3 <| And.intro @bu47_0 <| And.intro @bu47 <| And.intro @fa47_1 <| And.intro @fa47_2 <| And.intro @bu142_0 <| And.intro @fa142_1 <| And.intro @bu67_0 <| And.intro @fa67_5 <| And.intro @fa67_6 <| And.intro @fa67_9 <| And.intro @bu67 <| And.intro @bu51_0 <| And.intro @fa142_0 <| And.intro @bs25_0 <| And.intro @ty115 <| And.intro @ze115 <| And.intro @bu115_0_1_2_3_4_5_6_7_8_9_10_11_12_13_15_16_245_246_247_248_249_250_251_252_253_254_255 <| And.intro @sz115 <| And.intro @bs25_2 <| And.intro @bu45_0_1_2_3 <| And.intro @bu45 <| And.intro @bu49_0_1 <| And.intro @fa108_1 <| And.intro @ze132 <| And.intro @sz132 <| And.intro @ty132 <| And.intro @bu134_0_4 <| And.intro @bu134_0_1 <| And.intro @bu134_0_2 <| And.intro @bs80_14 <| And.intro @bs80_11 <| And.intro @bu49_0 <| And.intro @bu45_0 <| And.intro @sz43 <| And.intro @bu166_0 <| And.intro @bs168_5 <| And.intro @ia168 <| And.intro @ty167 <| And.intro @fa166_0 <| And.intro @fa166_1 <| And.intro @bs169_4 <| And.intro @bs169_3 <| And.intro @ia169 <| And.intro @bu132_0_3_4_5_6_7 <| And.intro @bu132_1_2_3_4_5_6_7 <| And.intro @bu132 <| And.intro @bu134_0 <| And.intro @fa134_1 <| And.intro @sz2 <| And.intro @fa134_2 <| And.intro @fa134_4 <| And.intro @fa134_3 <| And.intro @fa132_1 <| And.intro @fa132_2 <| And.intro @fa132_3 <| And.intro @fa132_0 <| And.intro @bu132_0 <| And.intro @bu132_1_2_3 <| And.intro @fa132_4 <| And.intro @fa132_5 <| And.intro @fa132_6 <| @fa132_7
end
end Go.Proofs.YtinbhlejofgomaaGreat
set_option linter.unusedSectionVars false
set_option maxRecDepth 10000
set_option maxHeartbeats 1000000
namespace Go.Proofs.YtinbhlejofgomaaGreat
open Go.Proofs Go.Lx Go.Wx Go.IntWalk
noncomputable section
structure Set0 where
 exts : List (FuncId × (List V → M V))
 gl : T (List V)
noncomputable def Set0.cfg (S : Set0) : Cfg := { P := Tryz.prog, lf := 0, gl := S.gl, sum := sums S.exts }
structure StdB (S : Set0) : Prop where
 ownB : ∀ f, f ∈ [141, 102, 114, 92, 140, 143, 137, 107, 139, 101, 138, 108, 95, 91, 99, 58] → sums S.exts f = none
 bidx : sums S.exts 153 = some idxM
theorem cfgP (S : Set0) : S.cfg.P = Tryz.prog := rfl
section
variable {c : Cfg} {Ok : Nat → Prop} {env : Env} {h : H} {K : V → H → Fp → Prop}
theorem gOp_no {op : Op} : gOp c Ok False op env h K = K undefV h (.lg []) := by unfold gOp; simp
theorem gOp_yes {op : Op} : gOp c Ok True op env h K = opW c Ok op env h K := by unfold gOp; simp
end
noncomputable def facts := And.intro @cfgP <| And.intro @factsT <| And.intro @gOp_no @gOp_yes
noncomputable def Knx := And.intro @push_nx <| And.intro @put_nx @del_nx
noncomputable def K3 := And.intro @clsL.eq_1 <| And.intro @clsL.eq_2 <| And.intro @clsL.eq_3 <| And.intro @clsS.eq_1 <| And.intro @clsS.eq_2 <| And.intro @clsC.eq_1 <| And.intro @clsC.eq_2 @clsC.eq_3
noncomputable def fq := And.intro @facts <| And.intro @K3 <| And.intro @isPtrD.eq_1 @isPtrD.eq_2
noncomputable def fW := And.intro @facts <| And.intro @wpb <| And.intro @cst <| And.intro @wpk <| And.intro @wpl <| And.intro @forall_const.{0} <| And.intro @forall_const.{1} <| And.intro @implies_true.{0} <| And.intro @implies_true.{1} <| And.intro @false_implies @K3
theorem dd {P : Prop} (h : P := by first | (simp only [fq]; done) | omega | (simp only [Knx]; omega) | (apply Nat.le_antisymm <;> simp only [Knx] <;> omega) | fail) : P := h
theorem de {P : Prop} (h : P := by first | (simp only [fq]; done) | omega | (simp only [Knx]; omega) | (apply Nat.le_antisymm <;> simp only [Knx] <;> omega) | exact dok (by kernel_rfl)) : P := h
theorem cj {a b : Prop} (x : a) (y : b) : a ∧ b := ⟨x, y⟩
theorem ww0 {A B : Prop} (b : B) (h : A = B := by simp +contextual (disch := first | (simp only [fq]; done) | omega | (simp only [Knx]; omega) | (apply Nat.le_antisymm <;> simp only [Knx] <;> omega) | fail) only [wpy, fW, Int.reduceLE, Int.reduceLT, Nat.reduceLeDiff, UInt8.reduceToNat, ↓reduceIte, Nat.reduceEqDiff, Nat.reduceAdd, reduceCtorEq, Int.reduceToNat]; rfl) : A := (h).mpr b
theorem ww1 {X A B : Prop} (x : X) (b : B) (h : X → A = B := by intro x; simp +contextual (disch := first | (simp only [fq]; done) | omega | (simp only [Knx]; omega) | (apply Nat.le_antisymm <;> simp only [Knx] <;> omega) | fail) only [wpy, fW, Int.reduceLE, Int.reduceLT, Nat.reduceLeDiff, UInt8.reduceToNat, ↓reduceIte, Nat.reduceEqDiff, Nat.reduceAdd, reduceCtorEq, Int.reduceToNat, x]; rfl) : A := (h x).mpr b
theorem wr0 {A B : Prop} (b : B) (h : A = B := by simp +contextual (disch := first | (simp only [fq]; done) | omega | (simp only [Knx]; omega) | (apply Nat.le_antisymm <;> simp only [Knx] <;> omega) | fail) only [wpyr, fW, Int.reduceLE, Int.reduceLT, Nat.reduceLeDiff, UInt8.reduceToNat, ↓reduceIte, Nat.reduceEqDiff, Nat.reduceAdd, reduceCtorEq, Int.reduceToNat]; rfl) : A := (h).mpr b
theorem wr1 {X A B : Prop} (x : X) (b : B) (h : X → A = B := by intro x; simp +contextual (disch := first | (simp only [fq]; done) | omega | (simp only [Knx]; omega) | (apply Nat.le_antisymm <;> simp only [Knx] <;> omega) | fail) only [wpyr, fW, Int.reduceLE, Int.reduceLT, Nat.reduceLeDiff, UInt8.reduceToNat, ↓reduceIte, Nat.reduceEqDiff, Nat.reduceAdd, reduceCtorEq, Int.reduceToNat, x]; rfl) : A := (h x).mpr b
theorem wv0 {A : Prop} (h : A := by simp +contextual (disch := first | (simp only [fq]; done) | omega | (simp only [Knx]; omega) | (apply Nat.le_antisymm <;> simp only [Knx] <;> omega) | fail) only [wpy, fW, Int.reduceLE, Int.reduceLT, Nat.reduceLeDiff, UInt8.reduceToNat, ↓reduceIte, Nat.reduceEqDiff, Nat.reduceAdd, reduceCtorEq, Int.reduceToNat]) : A := h
theorem wv1 {X A : Prop} (x : X) (h : X → A := by intro x; simp +contextual (disch := first | (simp only [fq]; done) | omega | (simp only [Knx]; omega) | (apply Nat.le_antisymm <;> simp only [Knx] <;> omega) | fail) only [wpy, fW, Int.reduceLE, Int.reduceLT, Nat.reduceLeDiff, UInt8.reduceToNat, ↓reduceIte, Nat.reduceEqDiff, Nat.reduceAdd, reduceCtorEq, Int.reduceToNat, x]) : A := h x
theorem wew0 {A B : Prop} (b : B) (h : A = B := by simp +contextual (disch := first | (simp only [fq]; done) | omega | (simp only [Knx]; omega) | (apply Nat.le_antisymm <;> simp only [Knx] <;> omega) | fail) only [wpy, fW, Int.reduceLE, Int.reduceLT, Nat.reduceLeDiff, UInt8.reduceToNat, ↓reduceIte, Nat.reduceEqDiff, Nat.reduceAdd, reduceCtorEq, Int.reduceToNat, Int.reduceEq]; rfl) : A := (h).mpr b
theorem wew1 {X A B : Prop} (x : X) (b : B) (h : X → A = B := by intro x; simp +contextual (disch := first | (simp only [fq]; done) | omega | (simp only [Knx]; omega) | (apply Nat.le_antisymm <;> simp only [Knx] <;> omega) | fail) only [wpy, fW, Int.reduceLE, Int.reduceLT, Nat.reduceLeDiff, UInt8.reduceToNat, ↓reduceIte, Nat.reduceEqDiff, Nat.reduceAdd, reduceCtorEq, Int.reduceToNat, Int.reduceEq, x]; rfl) : A := (h x).mpr b
theorem ubs : Tryz.prog.underlying 25 = some (.slice 5) := by kernel_rfl
theorem szb : szT Tryz.prog 5 = some 1 := by kernel_rfl
theorem n40 : ((4 : Int) = 0) = False := by decide
theorem n50 : ((5 : Int) = 0) = False := by decide
variable {S : Set0} (hS : StdB S)
include hS
theorem rfx_spec {v : V} {l : List Nat} {h : H} (a : BS 5 h v l) (hl : l.length < 2 ^ 62) (n : Nat) (hn : 1 ≤ n ∧ n ≤ 8) : Exact S.cfg 141 [v, .int .i64 n] h (.tuple [.int .u64 (if l.length < n then 0 else rdX l n), .int .i64 (if l.length < n then 4 else 0)]) := by
 refine into Tryz.f141 _ Tryz.func141 (hS.ownB _ (by decide)) rfl rfl (by kernel_rfl) (by kernel_rfl) ?_
 have a1 := a.len 5
 have n1 : ¬ n < 1 := by omega
 have n2 : ¬ 8 < n := by omega
 by_cases h1 : l.length < n
 ·rw [if_pos h1, if_pos h1]
  exact wv1 (cj @Tryz.f141.eq_1 <| cj a1 <| cj h1 <| cj n1 n2)
 rw [if_neg h1, if_neg h1]
 obtain ⟨b, o, m, rfl, _, _⟩ := a.at (i := 0) (by omega)
 obtain ⟨_, hb, hrd⟩ := a.rd
 refine ww1 (cj @Tryz.f141.eq_1 <| cj a1 <| cj h1 <| cj n1 n2) ?_
 refine run_loop (fun k env h' => ∃ i : Nat, k = n - i ∧ i ≤ n ∧ env 0 = .slice b o l.length m ∧ env 18 = .int .i64 n ∧ env 19 = .int .i64 i ∧ env 6 = .int .u64 (rdX l i) ∧ h' = h) n ⟨0, ?_⟩ ?_
 ·refine ww0 ?_
  exact ⟨rfl, rfl⟩
 rintro k env h' ⟨i, rfl, hi, e0, e18, e19, e6, rfl⟩
 by_cases hin : i < n
 ·have hr := hrd i (by omega)
  have hby := byI_in a.1 i
  have hil : i < l.length := by omega
  have w1 : IntKind.i64.wrap (8 * (i : Int)) = 8 * (i : Int) := i64_in _ (by omega)
  have w2 : ¬ (8 * (i : Int) < 0) := by omega
  have w3 : IntKind.u64.wrap (byI l i) = byI l i := u64_in _ (by omega)
  refine ww1 (cj e0 <| cj e18 <| cj e19 <| cj e6 <| cj hin <| cj hil <| cj hr <| cj w1 <| cj w2 w3) ?_
  exact ⟨_, by omega, i + 1, rfl, by omega, rfl, rfl⟩
 ·obtain rfl : i = n := by omega
  exact wv1 (cj e0 <| cj e18 <| cj e19 <| cj e6 hin)
theorem rin_spec {v : V} {l : List Nat} {h : H} (a : BS 5 h v l) (hl : l.length < 2 ^ 62) : Exact S.cfg 102 [v] h (.tuple [.int .u64 (iiF l).1, .int .i64 ((iiF l).2.1 : Nat), .int .i64 (iiF l).2.2]) := by
 refine into Tryz.f102 _ Tryz.func102 (hS.ownB _ (by decide)) rfl rfl (by kernel_rfl) (by kernel_rfl) ?_
 have a1 := a.len 5
 by_cases h0 : l.length = 0
 ·have e : iiF l = (0, 0, 4) := by unfold iiF; rw [if_pos h0]
  rw [e]
  refine ww1 (cj @Tryz.f102.eq_1 <| cj a1 h0) ?_
  rfl
 obtain ⟨b, o, m, rfl, _, _⟩ := a.at (i := 0) (by omega)
 obtain ⟨_, hb, hrd⟩ := a.rd
 have hr := hrd 0 (by omega)
 rw [Nat.add_zero] at hr
 have hby := byI_in a.1 0
 have hl0 : 0 < l.length := by omega
 have w3 : IntKind.u64.wrap (byI l 0) = byI l 0 := u64_in _ (by omega)
 by_cases h1 : byI l 0 ≤ 250
 ·have e : iiF l = (byI l 0, 1, 0) := by unfold iiF; rw [if_neg h0, if_pos h1]
  have n1 : ¬ byI l 0 = 252 := by omega
  have n2 : ¬ byI l 0 = 253 := by omega
  have n3 : ¬ byI l 0 = 254 := by omega
  have n4 : ¬ byI l 0 = 251 := by omega
  have n5 : ¬ byI l 0 = 255 := by omega
  rw [e]
  refine ww1 (cj @Tryz.f102.eq_1 <| cj a1 <| cj h0 <| cj hl0 <| cj hr <| cj w3 <| cj n1 <| cj n2 <| cj n3 <| cj n4 n5) ?_
  rfl
 by_cases h2 : byI l 0 = 251 ∨ byI l 0 = 255
 ·have e : iiF l = (0, 0, 5) := by unfold iiF; rw [if_neg h0, if_neg h1, if_pos h2]
  have n1 : ¬ byI l 0 = 252 := by omega
  have n2 : ¬ byI l 0 = 253 := by omega
  have n3 : ¬ byI l 0 = 254 := by omega
  rw [e]
  rcases h2 with h2 | h2
  ·have h2 := eq_true h2
   refine ww1 (cj @Tryz.f102.eq_1 <| cj a1 <| cj h0 <| cj hl0 <| cj hr <| cj w3 <| cj n1 <| cj n2 <| cj n3 h2) ?_
   rfl
  ·have n4 : ¬ byI l 0 = 251 := by omega
   have h2 := eq_true h2
   refine ww1 (cj @Tryz.f102.eq_1 <| cj a1 <| cj h0 <| cj hl0 <| cj hr <| cj w3 <| cj n1 <| cj n2 <| cj n3 <| cj n4 h2) ?_
   rfl
 have hs := iiS_in (byI l 0)
 have hd : (l.drop 1).length = l.length - 1 := List.length_drop
 have key : ∀ n : Nat, iiS (byI l 0) = n → iiF l = if l.length - 1 < n then (0, 0, 4) else (rdX (l.drop 1) n, n + 1, 0) := fun n hn => by
  unfold iiF; rw [if_neg h0, if_neg h1, if_neg h2, hn]
 by_cases c1 : byI l 0 = 252
 ·rw [key 2 (by unfold iiS; rw [if_pos c1])]
  have c1 := eq_true c1
  refine ww1 (cj @Tryz.f102.eq_1 <| cj a1 <| cj h0 <| cj hl0 <| cj hr <| cj w3 c1) ?_
  refine drop_bs (i := 1) a ubs szb (by exact wv0) (by exact wv0) hl0 fun w L hw _ _ => ?_
  refine ww1 @Tryz.f102.eq_1 ?_
  refine callF_exact (rfx_spec hS hw (by rw [hd]; omega) 2 (by omega)) ?_
  rw [hd]
  by_cases h5 : l.length - 1 < 2
  ·rw [if_pos h5]; simp +contextual (disch := first | exact dd | fail) only [wpy, fW, Int.reduceLE, Int.reduceLT, Nat.reduceLeDiff, UInt8.reduceToNat, ↓reduceIte, Nat.reduceEqDiff, Nat.reduceAdd, reduceCtorEq, Int.reduceToNat, Tryz.f102, h5, n40]; rfl
  ·rw [if_neg h5]; simp +contextual (disch := first | exact dd | fail) only [wpy, fW, Int.reduceLE, Int.reduceLT, Nat.reduceLeDiff, UInt8.reduceToNat, ↓reduceIte, Nat.reduceEqDiff, Nat.reduceAdd, reduceCtorEq, Int.reduceToNat, Tryz.f102, h5]; rfl
 by_cases c2 : byI l 0 = 253
 ·rw [key 3 (by unfold iiS; rw [if_neg c1, if_pos c2])]
  have c2 := eq_true c2
  refine ww1 (cj @Tryz.f102.eq_1 <| cj a1 <| cj h0 <| cj hl0 <| cj hr <| cj w3 <| cj c1 c2) ?_
  refine drop_bs (i := 1) a ubs szb (by exact wv0) (by exact wv0) hl0 fun w L hw _ _ => ?_
  refine ww1 @Tryz.f102.eq_1 ?_
  refine callF_exact (rfx_spec hS hw (by rw [hd]; omega) 3 (by omega)) ?_
  rw [hd]
  by_cases h5 : l.length - 1 < 3
  ·rw [if_pos h5]; simp +contextual (disch := first | exact dd | fail) only [wpy, fW, Int.reduceLE, Int.reduceLT, Nat.reduceLeDiff, UInt8.reduceToNat, ↓reduceIte, Nat.reduceEqDiff, Nat.reduceAdd, reduceCtorEq, Int.reduceToNat, Tryz.f102, h5, n40]; rfl
  ·rw [if_neg h5]; simp +contextual (disch := first | exact dd | fail) only [wpy, fW, Int.reduceLE, Int.reduceLT, Nat.reduceLeDiff, UInt8.reduceToNat, ↓reduceIte, Nat.reduceEqDiff, Nat.reduceAdd, reduceCtorEq, Int.reduceToNat, Tryz.f102, h5]; rfl
 have c3 : byI l 0 = 254 := by omega
 ·rw [key 8 (by unfold iiS; rw [if_neg c1, if_neg c2])]
  have c3 := eq_true c3
  refine ww1 (cj @Tryz.f102.eq_1 <| cj a1 <| cj h0 <| cj hl0 <| cj hr <| cj w3 <| cj c1 <| cj c2 c3) ?_
  refine drop_bs (i := 1) a ubs szb (by exact wv0) (by exact wv0) hl0 fun w L hw _ _ => ?_
  refine ww1 @Tryz.f102.eq_1 ?_
  refine callF_exact (rfx_spec hS hw (by rw [hd]; omega) 8 (by omega)) ?_
  rw [hd]
  by_cases h5 : l.length - 1 < 8
  ·rw [if_pos h5]; simp +contextual (disch := first | exact dd | fail) only [wpy, fW, Int.reduceLE, Int.reduceLT, Nat.reduceLeDiff, UInt8.reduceToNat, ↓reduceIte, Nat.reduceEqDiff, Nat.reduceAdd, reduceCtorEq, Int.reduceToNat, Tryz.f102, h5, n40]; rfl
  ·rw [if_neg h5]; simp +contextual (disch := first | exact dd | fail) only [wpy, fW, Int.reduceLE, Int.reduceLT, Nat.reduceLeDiff, UInt8.reduceToNat, ↓reduceIte, Nat.reduceEqDiff, Nat.reduceAdd, reduceCtorEq, Int.reduceToNat, Tryz.f102, h5]; rfl
theorem rtx_spec {v : V} {l : List Nat} {h : H} (a : BS 5 h v l) (hl : l.length < 2 ^ 62) : Exact S.cfg 114 [v] h (.tuple [.str (txF l).1, .int .i64 ((txF l).2.1 : Nat), .int .i64 (txF l).2.2]) := by
 refine into Tryz.f114 _ Tryz.func114 (hS.ownB _ (by decide)) rfl rfl (by kernel_rfl) (by kernel_rfl) ?_
 have a1 := a.len 5
 have hi := iiF_ok a.1
 refine ww1 @Tryz.f114.eq_1 ?_
 refine callF_exact (rin_spec hS a hl) ?_
 by_cases h0 : (iiF l).2.2 ≠ 0
 ·have e : txF l = ([], 0, (iiF l).2.2) := by unfold txF; rw [if_pos h0]
  have h0' : ¬ (iiF l).2.2 = 0 := h0
  rw [e]
  refine ww1 h0' ?_
  rfl
 have h0' : (iiF l).2.2 = 0 := Classical.not_not.1 h0
 obtain ⟨i1, i2, i3, i4, _⟩ := hi
 have i4 := i4 h0'
 have s1 : IntKind.i64.wrap ((l.length : Int) - ((iiF l).2.1 : Nat)) = ((l.length - (iiF l).2.1 : Nat) : Int) := by rw [i64_in _ (by omega)]; omega
 have s2 : IntKind.u64.wrap ((l.length - (iiF l).2.1 : Nat) : Int) = ((l.length - (iiF l).2.1 : Nat) : Int) := u64_in _ (by omega)
 by_cases h1 : ((l.length - (iiF l).2.1 : Nat) : Int) < (iiF l).1
 ·have e : txF l = ([], 0, 4) := by unfold txF; rw [if_neg h0, if_pos h1]
  rw [e]
  refine ww1 (cj h0' <| cj a1 <| cj s1 <| cj s2 h1) ?_
  rfl
 have e : txF l = ((l.take ((iiF l).2.1 + (iiF l).1.toNat)).drop (iiF l).2.1, (iiF l).2.1 + (iiF l).1.toNat, 0) := by unfold txF; rw [if_neg h0, if_neg h1]
 rw [e]
 have s3 : IntKind.i64.wrap (iiF l).1 = (iiF l).1 := i64_in _ (by omega)
 have s4 : IntKind.i64.wrap (((iiF l).2.1 : Int) + (iiF l).1) = (((iiF l).2.1 + (iiF l).1.toNat : Nat) : Int) := by rw [i64_in _ (by omega)]; omega
 refine ww1 (cj h0' <| cj a1 <| cj s1 <| cj s2 <| cj h1 <| cj s3 s4) ?_
 refine mid_bs (i := (iiF l).2.1) (j := (iiF l).2.1 + (iiF l).1.toNat) a ubs szb (by exact wv0) (by exact wv0) (by exact wv0) (by omega) (by omega) fun w L hw _ _ => ?_
 obtain ⟨L2, _, hc⟩ := hw.str
 exact wv1 (cj hc <| cj s3 s4)
end
noncomputable section
def RdR (t : TypeId) (n0 r : Nat) (R : Rd) (h h' : H) : Prop := RdS 5 t n0 r R h' ∧ But r h h'
variable {S : Set0} (hS : StdB S)
include hS
theorem step_spec {n0 r : Nat} {R : Rd} {h : H} (a : RdS 5 121 n0 r R h) (n : Nat) (e : Int) (hn : e = 0 → n ≤ R.bs.length) : callW S.cfg (· = r) 143 [.ptr r 0, .int .i64 n, .int .i64 e] h fun v h' => RdR 121 n0 r (if e ≠ 0 then ⟨R.bs, e⟩ else ⟨R.bs.drop n, R.e⟩) h h' := by
 refine into Tryz.f143 _ Tryz.func143 (hS.ownB _ (by decide)) rfl rfl (by kernel_rfl) (by kernel_rfl) ?_
 obtain ⟨⟨v, g, hb, ho⟩, hl⟩ := a
 obtain ⟨c1, c2⟩ := hb.cell
 by_cases he : e = 0
 ·subst he
  refine ww1 (cj @Tryz.f143.eq_1 g) ?_
  refine drop_bs (i := n) hb ubs szb (by exact wv0) (by exact wv0) (hn rfl) fun w L hw ho2 _ => ?_
  obtain ⟨d1, d2⟩ := hw.cell
  refine ww1 (cj @Tryz.f143.eq_1 <| cj g <| cj d1 d2) ?_
  exact ⟨RdS.put (R := ⟨R.bs.drop n, R.e⟩) hw (fun k hk => ho2 k (ho k hk)) hl, (But.refl r h).put _⟩
 ·rw [if_pos he]
  refine ww1 (cj @Tryz.f143.eq_1 <| cj g he) ?_
  exact ⟨RdS.put (R := ⟨R.bs, e⟩) hb ho hl, (But.refl r h).put _⟩
theorem fix_spec {n0 r : Nat} {R : Rd} {h : H} (a : RdS 5 121 n0 r R h) (hl : R.bs.length < 2 ^ 62) (n : Nat) (hn : 1 ≤ n ∧ n ≤ 8) : callW S.cfg (· = r) 107 [.ptr r 0, .int .i64 n] h fun v h' => v = .int .u64 (R.fix n).1 ∧ RdR 121 n0 r (R.fix n).2 h h' := by
 refine into Tryz.f107 _ Tryz.func107 (hS.ownB _ (by decide)) rfl rfl (by kernel_rfl) (by kernel_rfl) ?_
 have a' := a
 obtain ⟨⟨v, g, hb, ho⟩, hlt⟩ := a
 obtain ⟨c1, c2⟩ := hb.cell
 by_cases he : R.e ≠ 0
 ·rw [Rd.fix_err n he]
  have he' : ¬ R.e = 0 := he
  refine ww1 (cj @Tryz.f107.eq_1 <| cj g he') ?_
  exact ⟨a', But.refl r h⟩
 have he' : R.e = 0 := Classical.not_not.1 he
 refine ww1 (cj @Tryz.f107.eq_1 <| cj g he') ?_
 refine callF_exact (rfx_spec hS hb hl n hn) ?_
 refine ww1 g ?_
 refine callF_of (step_spec hS a' n (if R.bs.length < n then 4 else 0) (fun q => by
  by_cases h5 : R.bs.length < n
  ·rw [if_pos h5] at q; cases q
  ·omega)) (fun k hk => .inr hk) ?_
 rintro w h' hr
 refine ww0 ?_
 unfold Rd.fix
 rw [if_neg he]
 by_cases h5 : R.bs.length < n
 ·rw [if_pos h5, if_pos h5]
  rw [if_pos h5, if_pos (by decide)] at hr
  exact ⟨rfl, hr⟩
 ·rw [if_neg h5, if_neg h5]
  rw [if_neg h5, if_neg (by decide), he'] at hr
  exact ⟨rfl, hr⟩
theorem cnt_spec {n0 r : Nat} {R : Rd} {h : H} (a : RdS 5 121 n0 r R h) (hl : R.bs.length < 2 ^ 62) : callW S.cfg (· = r) 137 [.ptr r 0] h fun v h' => v = .int .u64 R.cnt.1 ∧ RdR 121 n0 r R.cnt.2 h h' := by
 refine into Tryz.f137 _ Tryz.func137 (hS.ownB _ (by decide)) rfl rfl (by kernel_rfl) (by kernel_rfl) ?_
 have a' := a
 obtain ⟨⟨v, g, hb, ho⟩, hlt⟩ := a
 obtain ⟨c1, c2⟩ := hb.cell
 by_cases he : R.e ≠ 0
 ·rw [Rd.cnt_err he]
  have he' : ¬ R.e = 0 := he
  refine ww1 (cj @Tryz.f137.eq_1 <| cj g he') ?_
  exact ⟨a', But.refl r h⟩
 have he' : R.e = 0 := Classical.not_not.1 he
 have hi := iiF_ok hb.1
 refine ww1 (cj @Tryz.f137.eq_1 <| cj g he') ?_
 refine callF_exact (rin_spec hS hb hl) ?_
 refine ww1 g ?_
 refine callF_of (step_spec hS a' _ _ (fun q => hi.2.2.1)) (fun k hk => .inr hk) ?_
 rintro w h' hr
 refine ww0 ?_
 unfold Rd.cnt
 rw [if_neg he]
 refine ⟨rfl, ?_⟩
 by_cases h5 : (iiF R.bs).2.2 = 0
 ·rw [if_neg (fun q => q h5), he'] at hr
  show RdR _ _ _ ⟨_, _⟩ _ _
  rw [h5]; exact hr
 ·rw [if_pos h5] at hr
  show RdR _ _ _ ⟨_, _⟩ _ _
  rw [(hi.2.2.2.2.1 h5).2, List.drop_zero]; exact hr
theorem txt_spec {n0 r : Nat} {R : Rd} {h : H} (a : RdS 5 121 n0 r R h) (hl : R.bs.length < 2 ^ 62) : callW S.cfg (· = r) 139 [.ptr r 0] h fun v h' => v = .str R.txt.1 ∧ RdR 121 n0 r R.txt.2 h h' := by
 refine into Tryz.f139 _ Tryz.func139 (hS.ownB _ (by decide)) rfl rfl (by kernel_rfl) (by kernel_rfl) ?_
 have a' := a
 obtain ⟨⟨v, g, hb, ho⟩, hlt⟩ := a
 obtain ⟨c1, c2⟩ := hb.cell
 by_cases he : R.e ≠ 0
 ·rw [Rd.txt_err he]
  have he' : ¬ R.e = 0 := he
  refine ww1 (cj @Tryz.f139.eq_1 <| cj g he') ?_
  exact ⟨a', But.refl r h⟩
 have he' : R.e = 0 := Classical.not_not.1 he
 have hi := txF_ok hb.1
 refine ww1 (cj @Tryz.f139.eq_1 <| cj g he') ?_
 refine callF_exact (rtx_spec hS hb hl) ?_
 refine ww1 g ?_
 refine callF_of (step_spec hS a' _ _ (fun q => hi.1)) (fun k hk => .inr hk) ?_
 rintro w h' hr
 refine ww0 ?_
 unfold Rd.txt
 rw [if_neg he]
 refine ⟨rfl, ?_⟩
 by_cases h5 : (txF R.bs).2.2 = 0
 ·rw [if_neg (fun q => q h5), he'] at hr
  show RdR _ _ _ ⟨_, _⟩ _ _
  rw [h5]; exact hr
 ·rw [if_pos h5] at hr
  show RdR _ _ _ ⟨_, _⟩ _ _
  rw [(hi.2.1 h5).2, List.drop_zero]; exact hr
omit hS in
theorem nice_idxM (vs : List V) : Nice (idxM vs) := by
 unfold idxM
 repeat' (first | exact Nice.ret _ | exact Nice.err _ | exact Nice.ld _ _ _ | exact Nice.opt _ _ | refine Nice.cond ?_ ?_ | refine Nice.bnd ?_ (fun _ => ?_) | split)
omit hS in
theorem bytesOfV_bytes : ∀ {l : List Nat}, (∀ x ∈ l, x < 256) → bytesOfV (bytesV l) = some l
 | [], _ => rfl
 | x :: l, h => by
   have ih := bytesOfV_bytes (l := l) fun y hy => h y (.tail _ hy)
   have hx := h x (.head _)
   show (match byteV (.int .u8 (x : Nat)), bytesOfV (bytesV l) with
    | some n, some ns => some (n :: ns)
    | _, _ => none) = _
   have e : byteV (.int .u8 (x : Nat)) = some x := by
    have q : (x : Int) < 256 := by omega
    simp [byteV, q]
   rw [ih, e]
theorem aidx_spec {v : V} {l : List Nat} {h : H} (a : BS 5 h v l) (c : Int) (hc : 0 ≤ c ∧ c < 256) : Exact S.cfg 153 [v, .int .u8 c] h (.int .i64 (idxNats l c.toNat)) := by
 rcases a.2 with ⟨rfl, rfl⟩ | ⟨b, o, m, rfl, h1, h2, h3, h4⟩
 ·exact callW_sum (s := h.st) hS.bidx (nice_idxM _) rfl LogOk_nil ⟨rfl, rfl⟩
 ·refine callW_sum (s := ⟨h.heap, h.nx, [.rd b o l.length]⟩) hS.bidx (nice_idxM _) ?_ ?_ ⟨rfl, rfl⟩
  ·show (bif decide (0 ≤ c) && decide (c < 256) then Lx.bnd (Lx.ld b o l.length) fun cs => Lx.bnd (Lx.opt (bytesOfV cs) "bytes") fun ns => Lx.ret (V.int .i64 (idxNats ns c.toNat)) else err "byte") ⟨h.heap, h.nx, []⟩ = _
   rw [show (decide (0 ≤ c) && decide (c < 256)) = true by simp [hc], cond_true, bnd_eq (ld_rdC (s := ⟨h.heap, h.nx, []⟩) h3), bytesOfV_bytes a.1]
   rfl
  ·rw [LogOk_cons_rd]
   exact LogOk_nil
theorem bidx_spec {v : V} {l : List Nat} {h : H} (a : BS 5 h v l) (c : Int) (hc : 0 ≤ c ∧ c < 256) : Exact S.cfg 140 [v, .int .u8 c] h (.int .i64 (idxNats l c.toNat)) := by
 refine into Tryz.f140 _ Tryz.func140 (hS.ownB _ (by decide)) rfl rfl (by kernel_rfl) (by kernel_rfl) ?_
 refine ww1 @Tryz.f140.eq_1 ?_
 refine callF_exact (aidx_spec hS a c hc) ?_
 exact wv0
def mustF (R : Rd) (ls : List Nat) : Rd := (R.fix 1).2.bad (idxNats ls (IntKind.u8.wrap (R.fix 1).1).toNat < 0)
omit hS in
theorem u8_wrap_in (n : Int) : 0 ≤ IntKind.u8.wrap n ∧ IntKind.u8.wrap n < 256 := by
 rw [IntKind.wrap_u8]; omega
theorem must_spec {n0 r : Nat} {R : Rd} {h : H} (a : RdS 5 121 n0 r R h) (hl : R.bs.length < 2 ^ 62) {vl : V} {ls : List Nat} (al : BS 5 h vl ls) (ho : Off vl r) : callW S.cfg (· = r) 101 [.ptr r 0, vl] h fun v h' => RdR 121 n0 r (mustF R ls) h h' := by
 refine into Tryz.f101 _ Tryz.func101 (hS.ownB _ (by decide)) rfl rfl (by kernel_rfl) (by kernel_rfl) ?_
 refine ww1 @Tryz.f101.eq_1 ?_
 refine callF_of (fix_spec hS a hl 1 (by omega)) (fun k hk => .inr hk) ?_
 rintro w h1 ⟨rfl, a1, b1⟩
 have hu := u8_wrap_in (R.fix 1).1
 have al1 : BS 5 h1 vl ls := al.keep b1.1 fun k hk ⟨o, n, m, q⟩ => b1.2 k hk fun e => ho o n m (by rw [← e]; exact q)
 obtain ⟨⟨v, g, hb, ho1⟩, hlt⟩ := a1
 have a1 : RdS 5 121 n0 r (R.fix 1).2 h1 := ⟨⟨v, g, hb, ho1⟩, hlt⟩
 refine ww1 g ?_
 refine gCall_exact (first := []) (cap := []) (fun _ => bidx_spec hS al1 _ hu) fun fp => ?_
 by_cases hq : (R.fix 1).2.e = 0 ∧ idxNats ls (IntKind.u8.wrap (R.fix 1).1).toNat < 0
 ·have q1 := eq_true hq.1
  have q2 := hq.2
  have e : mustF R ls = ⟨(R.fix 1).2.bs, 5⟩ := Rd.bad_yes hq
  rw [e]
  refine ww1 (cj g <| cj q1 q2) ?_
  exact ⟨RdS.put (R := ⟨(R.fix 1).2.bs, 5⟩) hb ho1 hlt, b1.put _⟩
 ·have e : mustF R ls = (R.fix 1).2 := Rd.bad_no hq
  rw [e]
  by_cases q1 : (R.fix 1).2.e = 0
  ·have q2 : ¬ idxNats ls (IntKind.u8.wrap (R.fix 1).1).toNat < 0 := fun q => hq ⟨q1, q⟩
   have q1 := eq_true q1
   refine ww1 (cj g <| cj q1 q2) ?_
   exact ⟨a1, b1⟩
  ·refine ww1 (cj g q1) ?_
   exact ⟨a1, b1⟩
def overF (R : Rd) : Rd := R.over
theorem over_spec {n0 r : Nat} {R : Rd} {h : H} (a : RdS 5 121 n0 r R h) : callW S.cfg (· = r) 108 [.ptr r 0] h fun v h' => v = .int .i64 (overF R).e ∧ RdR 121 n0 r (overF R) h h' := by
 refine into Tryz.f108 _ Tryz.func108 (hS.ownB _ (by decide)) rfl rfl (by kernel_rfl) (by kernel_rfl) ?_
 have a' := a
 obtain ⟨⟨v, g, hb, ho⟩, hlt⟩ := a
 have a1 := hb.len 5
 by_cases hq : R.e = 0 ∧ R.bs ≠ []
 ·have q1 := eq_true hq.1
  have q2 : 0 < R.bs.length := List.length_pos_iff.2 hq.2
  have e : overF R = ⟨R.bs, 5⟩ := Rd.bad_yes hq
  rw [e]
  refine ww1 (cj @Tryz.f108.eq_1 <| cj g <| cj a1 <| cj q1 q2) ?_
  exact ⟨RdS.put (R := ⟨R.bs, 5⟩) hb ho hlt, (But.refl r h).put _⟩
 ·have e : overF R = R := Rd.bad_no hq
  rw [e]
  by_cases q1 : R.e = 0
  ·have q3 : R.bs = [] := Classical.not_not.1 fun q => hq ⟨q1, q⟩
   have q2 : ¬ 0 < R.bs.length := by rw [q3]; decide
   have q1 := eq_true q1
   refine ww1 (cj @Tryz.f108.eq_1 <| cj g <| cj a1 <| cj q1 q2) ?_
   exact ⟨a', But.refl r h⟩
  ·refine ww1 (cj @Tryz.f108.eq_1 <| cj g <| cj a1 q1) ?_
   exact ⟨a', But.refl r h⟩
omit hS in
theorem nil_bs {lv : V} (hv : lv = .nilslice ∨ ∃ b o n m, lv = .slice b o n m) : binV Tryz.prog .eql 25 (constO (.tmp 3) || constO (.const (Value.slice none 0 0))) lv .nilslice = some (bo (lv = .nilslice)) := by
 rcases hv with rfl | ⟨b, o, n, m, rfl⟩
 ·have e : binV Tryz.prog .eql 25 (constO (.tmp 3) || constO (.const (Value.slice none 0 0))) .nilslice .nilslice = some (.bool true) := by kernel_rfl
  rw [e]; simp [bo]
 ·have e : binV Tryz.prog .eql 25 (constO (.tmp 3) || constO (.const (Value.slice none 0 0))) (.slice b o n m) .nilslice = some (.bool false) := by kernel_rfl
  rw [e]; simp [bo]
omit hS in
theorem isCell_bytes (l : List Nat) : (bytesV l).all V.isCell = true := by simp [bytesV, V.isCell]
omit hS in
theorem _root_.Go.Wx.Lst.off {n0 : Nat} {h : H} {v : V} {cells : List V} {e sz : Nat} (a : Lst n0 h v cells e sz) : ∀ k, k < n0 → Off v k := fun k hk o n m q => by
 rcases a with a | ⟨_, b, h0, h1, q2, _⟩
 ·exact a.ne hk q
 ·rw [q2] at q; cases q; omega
theorem bclone_spec {v : V} {l : List Nat} {h : H} (a : BS 5 h v l) (hl : l.length < 2 ^ 28) : Pure S.cfg 92 [v] h fun w h' => Lst h.nx h' w (bytesV l) 5 1 := by
 refine into Tryz.f92 _ Tryz.func92 (hS.ownB _ (by decide)) rfl rfl (by kernel_rfl) (by kernel_rfl) ?_
 have hn : binV Tryz.prog .eql 25 (constO (.tmp 3) || constO (.const (Value.slice none 0 0))) v .nilslice = some (bo (v = .nilslice)) := nil_bs (by
  rcases a.form with ⟨rfl, rfl⟩ | ⟨b, o, m, rfl⟩
  ·exact .inl rfl
  ·exact .inr ⟨_, _, _, _, rfl⟩)
 by_cases h0 : v = .nilslice
 ·have hls : l = [] := by
   rcases a.form with ⟨_, q⟩ | ⟨b, o, m, q⟩
   ·exact q
   ·rw [h0] at q; cases q
  subst h0
  subst hls
  refine ww1 (cj @Tryz.f92.eq_1 hn) ?_
  exact ⟨Ext.refl h, .inl (.inl ⟨rfl, rfl⟩)⟩
 ·refine ww1 (cj @Tryz.f92.eq_1 <| cj hn h0) ?_
  generalize hhA : h.push (Ob.cells [] 5 false) = hA
  have hxA : Ext h hA := by rw [← hhA]; exact (Ext.refl h).push _
  have hgA : hA.get h.nx = some (.cells [] 5 false) := by rw [← hhA]; exact push_eq rfl
  have hnA : hA.nx = h.nx + 1 := by rw [← hhA]; rfl
  clear hhA
  refine append_lst (n0 := h.nx) (sv := .slice h.nx 0 0 0) (xv := v) (cells := []) (new := bytesV l) ?_ ?_ ap25 ⟨.slice 5, by kernel_rfl, rfl⟩ (.inr ⟨rfl, h.nx, Nat.le_refl _, by omega, rfl, hgA⟩) (a.ext hxA).src (isCell_bytes _) ?_ (by decide) (fun k hk => by rw [fresh_def]; exact .inl hk) (by omega) ?_
  ·exact wv0
  ·exact wv0
  ·rw [bytesV_length]; simp only [List.length_nil]; omega
  intro w h1 L hl1 hn1 hk1 hf1 hL1
  refine ww1 @Tryz.f92.eq_1 ?_
  exact ⟨⟨by omega, fun k hk => by rw [hf1 k hk, hxA.2 k hk]⟩, hl1⟩
theorem rest_spec {n0 r : Nat} {R : Rd} {h : H} (a : RdS 5 121 n0 r R h) (hl : R.bs.length < 2 ^ 28) : callW S.cfg (· = r) 138 [.ptr r 0] h fun w h' => BS 5 h' w R.bs ∧ RdR 121 n0 r ⟨[], R.e⟩ h h' := by
 refine into Tryz.f138 _ Tryz.func138 (hS.ownB _ (by decide)) rfl rfl (by kernel_rfl) (by kernel_rfl) ?_
 obtain ⟨⟨v, g, hb, ho⟩, hlt⟩ := a
 refine ww1 (cj @Tryz.f138.eq_1 g) ?_
 refine callF_pure (bclone_spec hS hb hl) ?_
 intro w h1 hx hw
 have g1 : h1.get r = some (.cells [v, .int .i64 R.e] 121 false) := by rw [hx.2 r hlt.2]; exact g
 have hlt1 : n0 ≤ r ∧ r < h1.nx := ⟨hlt.1, Nat.lt_of_lt_of_le hlt.2 hx.1⟩
 refine ww1 g1 ?_
 exact ⟨(BS.of_lst hb.1 hw).put (hw.off r hlt.2), RdS.put (R := ⟨[], R.e⟩) (BS.nil _ _) (fun _ _ _ _ _ q => by cases q) hlt1, (But.of_ext hx).put _⟩
end
end Go.Proofs.YtinbhlejofgomaaGreat
set_option maxHeartbeats 2000000
namespace Go.Proofs.YtinbhlejofgomaaGreat
open Go.Proofs Go.Lx Go.Wx Go.IntWalk
noncomputable section
def hasP (c x : Int) : Prop := ¬ iAnd .u32 c x = 0
def sessP (c : Int) : Prop := hasP c 8388608
def chgP (st : Int) : Prop := ¬ iAnd .u16 st 16384 = 0
def trkP (c st : Int) : Prop := sessP c ∧ chgP st
def okeF (l : List Nat) (c : Int) : Int := okE l (sessP c) (trkP c (okS l).1)
def oz : List V := [.int .u64 0, .int .u64 0, .int .u16 0, .int .u16 0, .str [], .nilslice]
theorem RdR.trans {t n0 r : Nat} {R R1 : Rd} {h h1 h2 : H} (a : RdR t n0 r R h h1) (b : RdR t n0 r R1 h1 h2) : RdR t n0 r R1 h h2 := ⟨b.1, a.2.trans b.2⟩
theorem txt_bytes {R : Rd} (h : ∀ x ∈ R.bs, x < 256) : ∀ x ∈ R.txt.1, x < 256 := fun x hx => by
 unfold Rd.txt at hx
 split at hx
 ·cases hx
 ·exact (txF_ok h).2.2.1 x hx
def okX (l : List Nat) : Int × Int × Int :=
 let R := (Rd.mk l 0).byt
 let R2 := R.2.bad (R.1 ≠ 0 ∧ R.1 ≠ 254)
 (R2.cnt.1, R2.cnt.2.cnt.1, IntKind.u16.wrap ((R2.cnt.2.cnt.2.fix 2).2.fix 2).1)
def okI (R : Rd) (has trk : Prop) : List Nat × List Nat := @ite _ (R.e ≠ 0) (Classical.propDecidable _) ([], []) (@ite _ has (Classical.propDecidable _) (@ite _ trk (Classical.propDecidable _) (R.txt.1, R.txt.2.txt.1) (@ite _ (R.bs ≠ []) (Classical.propDecidable _) (R.txt.1, []) ([], []))) (R.bs, []))
structure OkV where
 a : Int
 i : Int
 s : Int
 w : Int
 t : List Nat
 k : List Nat
def OkV.z : OkV := ⟨0, 0, 0, 0, [], []⟩
def okV (l : List Nat) (c : Int) : OkV := @ite _ (okeF l c = 0) (Classical.propDecidable _) ⟨(okX l).1, (okX l).2.1, (okS l).1, (okX l).2.2, (okI (okS l).2 (sessP c) (trkP c (okS l).1)).1, (okI (okS l).2 (sessP c) (trkP c (okS l).1)).2⟩ OkV.z
def OkV.cells (o : OkV) (y : V) : List V := [.int .u64 o.a, .int .u64 o.i, .int .u16 o.s, .int .u16 o.w, .str o.t, y]
variable {S : Set0} (hS : StdB S)
include hS
theorem has_spec (c x : Int) (h : H) : Exact S.cfg 95 [.int .u32 c, .int .u32 x] h (bo (hasP c x)) := by
 refine into Tryz.f95 _ Tryz.func95 (hS.ownB _ (by decide)) rfl rfl (by kernel_rfl) (by kernel_rfl) ?_
 refine ww1 @Tryz.f95.eq_1 ?_
 rfl
theorem tracked_spec (c a b s w : Int) (t : List Nat) (x : V) (hx : x.cells = [x] ∧ x.isCell = true) (h : H) : Pure S.cfg 91 [.int .u32 c, .agg [.int .u64 a, .int .u64 b, .int .u16 s, .int .u16 w, .str t, x]] h fun v _ => v = bo (trkP c s) := by
 refine into Tryz.f91 _ Tryz.func91 (hS.ownB _ (by decide)) rfl rfl (by kernel_rfl) (by kernel_rfl) ?_
 have hx1 := hx.1
 have hx2 := hx.2
 refine ww1 (cj @Tryz.f91.eq_1 <| cj hx1 hx2) ?_
 refine callF_exact (has_spec hS c 8388608 _) ?_
 by_cases hq : sessP c
 ·have hq1 : hasP c 8388608 := hq
  refine ww1 hq1 ?_
  exact ⟨(Ext.refl h).push _, bo_eq ⟨fun q => ⟨hq, q⟩, fun q => q.2⟩⟩
 ·have hq1 : ¬ hasP c 8388608 := hq
  refine ww1 hq1 ?_
  exact ⟨(Ext.refl h).push _, bo_eq ⟨fun q => q.elim, fun q => hq q.1⟩⟩
theorem first_spec {v : V} {l : List Nat} {h : H} (a : BS 5 h v l) (c : Int) : Exact S.cfg 58 [v, .int .u32 c] h (.int .i64 (@ite _ (l.length = 0) (Classical.propDecidable _) 0 (@ite _ (byI l 0 = 0) (Classical.propDecidable _) 1 (@ite _ (byI l 0 = 255) (Classical.propDecidable _) 2 (@ite _ (byI l 0 = 251 ∧ hasP c 128) (Classical.propDecidable _) 4 0))))) := by
 refine into Tryz.f58 _ Tryz.func58 (hS.ownB _ (by decide)) rfl rfl (by kernel_rfl) (by kernel_rfl) ?_
 have a1 := a.len 5
 by_cases h0 : l.length = 0
 ·rw [if_pos h0]
  exact wv1 (cj @Tryz.f58.eq_1 <| cj a1 h0)
 rw [if_neg h0]
 obtain ⟨b, o, m, rfl, _, _⟩ := a.at (i := 0) (by omega)
 obtain ⟨_, hb, hrd⟩ := a.rd
 have hr := hrd 0 (by omega)
 rw [Nat.add_zero] at hr
 have hl0 : 0 < l.length := by omega
 by_cases h1 : byI l 0 = 0
 ·rw [if_pos h1]
  have h1 := eq_true h1
  exact wv1 (cj @Tryz.f58.eq_1 <| cj a1 <| cj h0 <| cj hl0 <| cj hr h1)
 rw [if_neg h1]
 by_cases h2 : byI l 0 = 255
 ·rw [if_pos h2]
  have h2 := eq_true h2
  exact wv1 (cj @Tryz.f58.eq_1 <| cj a1 <| cj h0 <| cj hl0 <| cj hr <| cj h1 h2)
 rw [if_neg h2]
 refine ww1 (cj @Tryz.f58.eq_1 <| cj a1 <| cj h0 <| cj hl0 <| cj hr <| cj h1 h2) ?_
 refine gCall_exact (first := []) (cap := []) (fun _ => has_spec hS c 128 _) fun fp => ?_
 by_cases h3 : byI l 0 = 251
 ·by_cases h4 : hasP c 128
  ·rw [if_pos ⟨h3, h4⟩]
   have h3 := eq_true h3
   exact wv1 (cj a1 <| cj h0 <| cj hl0 <| cj hr <| cj h1 <| cj h2 <| cj h3 h4)
  ·rw [if_neg (fun q => h4 q.2)]
   have h3 := eq_true h3
   exact wv1 (cj a1 <| cj h0 <| cj hl0 <| cj hr <| cj h1 <| cj h2 <| cj h3 h4)
 ·rw [if_neg (fun q => h3 q.1)]
  exact wv1 (cj a1 <| cj h0 <| cj hl0 <| cj hr <| cj h1 <| cj h2 h3)
theorem readok_spec {v : V} {l : List Nat} {h : H} (a : BS 5 h v l) (hl : l.length < 2 ^ 28) (c : Int) : Pure S.cfg 99 [v, .int .u32 c] h fun w h' => ∃ y, w = .tuple [.agg ((okV l c).cells y), .int .i64 (okeF l c)] ∧ BS 5 h' y (okV l c).k ∧ ∀ k, k < h.nx → Off y k := by
 refine into Tryz.f99 _ Tryz.func99 (hS.ownB _ (by decide)) rfl rfl (by kernel_rfl) (by kernel_rfl) ?_
 obtain ⟨c1, c2⟩ := a.cell
 refine ww1 (cj @Tryz.f99.eq_1 <| cj c1 c2) ?_
 generalize hhA : H.push _ (Ob.cells [V.int IntKind.u8 0, V.int IntKind.u8 254] 5 false) = hA
 have hxA : Ext h hA := by rw [← hhA]; exact (((Ext.refl h).push _).push _).push _
 have hnA : hA.nx = h.nx + 3 := by rw [← hhA]; rfl
 have gR : hA.get (h.nx + 1) = some (.cells [v, .int .i64 0] 121 false) := by rw [← hhA, push_ne (by simp only [push_nx]; omega)]; exact push_eq rfl
 have gZ : hA.get h.nx = some (.cells oz 45 false) := by rw [← hhA, push_ne (by simp only [push_nx]; omega), push_ne (by simp only [push_nx]; omega)]; exact push_eq rfl
 have gL : hA.get (h.nx + 1 + 1) = some (.cells (bytesV [0, 254]) 5 false) := by rw [← hhA]; exact push_eq rfl
 clear hhA
 have al : BS 5 hA (.slice (h.nx + 1 + 1) 0 2 2) [0, 254] := ⟨by intro x hx; simp at hx; omega, .inr ⟨_, 0, 2, rfl, by omega, by decide, by rw [gL]; rfl, fun kc e' fl q hf => by rw [gL] at q; cases q; cases hf⟩⟩
 have a2 : RdS 5 121 h.nx (h.nx + 1) ⟨l, 0⟩ hA := ⟨⟨v, gR, a.ext hxA, fun k hk => a.off hk⟩, by omega, by omega⟩
 have okf : ∀ k, k = h.nx + 1 → fresh h.nx nil1 k := fun k hk => by rw [fresh_def]; exact .inl (by omega)
 have hR2 : mustF ⟨l, 0⟩ [0, 254] = (Rd.mk l 0).byt.2.bad ((Rd.mk l 0).byt.1 ≠ 0 ∧ (Rd.mk l 0).byt.1 ≠ 254) := by
  unfold mustF
  rw [(Rd.byt_fix (R := ⟨l, 0⟩) a.1).1, (Rd.byt_fix (R := ⟨l, 0⟩) a.1).2, must_two _ (Rd.byt_in (R := ⟨l, 0⟩) a.1).1]
 have l0 : (Rd.mk l 0).byt.2.bs.length ≤ l.length := by rw [← (Rd.byt_fix (R := ⟨l, 0⟩) a.1).2]; exact Rd.fix_len _ _
 refine callF_of (must_spec hS a2 (by show l.length < _; omega) al (fun o n m q => by injection q; omega)) okf ?_
 rw [hR2]
 generalize hgR2 : (Rd.mk l 0).byt.2.bad ((Rd.mk l 0).byt.1 ≠ 0 ∧ (Rd.mk l 0).byt.1 ≠ 254) = R2
 have l2 : R2.bs.length ≤ l.length := by rw [← hgR2, Rd.bad_bs]; exact l0
 rintro w1 h1 r1
 refine ww0 ?_
 refine callF_of (cnt_spec hS r1.1 (by omega)) okf ?_
 have l3 := Rd.cnt_len R2
 rintro _ h2 ⟨rfl, r2⟩
 refine ww0 ?_
 refine callF_of (cnt_spec hS r2.1 (by omega)) okf ?_
 have l4 := Rd.cnt_len R2.cnt.2
 rintro _ h3 ⟨rfl, r3⟩
 refine ww0 ?_
 refine callF_of (fix_spec hS r3.1 (by omega) 2 (by omega)) okf ?_
 have l5 := Rd.fix_len R2.cnt.2.cnt.2 2
 rintro _ h4 ⟨rfl, r4⟩
 refine ww0 ?_
 refine callF_of (fix_spec hS r4.1 (by omega) 2 (by omega)) okf ?_
 have l6 := Rd.fix_len (R2.cnt.2.cnt.2.fix 2).2 2
 rintro _ h5 ⟨rfl, r5⟩
 have hS5 : okS l = (IntKind.u16.wrap (R2.cnt.2.cnt.2.fix 2).1, ((R2.cnt.2.cnt.2.fix 2).2.fix 2).2) := by rw [← hgR2]; rfl
 have hX : okX l = (R2.cnt.1, R2.cnt.2.cnt.1, IntKind.u16.wrap ((R2.cnt.2.cnt.2.fix 2).2.fix 2).1) := by rw [← hgR2]; rfl
 have hRa : okeF l c = (okR l (sessP c) (trkP c (IntKind.u16.wrap (R2.cnt.2.cnt.2.fix 2).1))).over.e := by unfold okeF okE; rw [hS5]
 have hRb : ∀ p q : Prop, okR l p q = @ite _ (((R2.cnt.2.cnt.2.fix 2).2.fix 2).2.e ≠ 0) (Classical.propDecidable _) ((R2.cnt.2.cnt.2.fix 2).2.fix 2).2 (@ite _ p (Classical.propDecidable _) (@ite _ q (Classical.propDecidable _) ((R2.cnt.2.cnt.2.fix 2).2.fix 2).2.txt.2.txt.2 (@ite _ (((R2.cnt.2.cnt.2.fix 2).2.fix 2).2.bs ≠ []) (Classical.propDecidable _) ((R2.cnt.2.cnt.2.fix 2).2.fix 2).2.txt.2 ((R2.cnt.2.cnt.2.fix 2).2.fix 2).2)) ⟨[], ((R2.cnt.2.cnt.2.fix 2).2.fix 2).2.e⟩) := fun p q => by unfold okR; rw [hS5]
 have hV : okV l c = @ite _ ((okR l (sessP c) (trkP c (IntKind.u16.wrap (R2.cnt.2.cnt.2.fix 2).1))).over.e = 0) (Classical.propDecidable _) ⟨R2.cnt.1, R2.cnt.2.cnt.1, IntKind.u16.wrap (R2.cnt.2.cnt.2.fix 2).1, IntKind.u16.wrap ((R2.cnt.2.cnt.2.fix 2).2.fix 2).1, (okI ((R2.cnt.2.cnt.2.fix 2).2.fix 2).2 (sessP c) (trkP c (IntKind.u16.wrap (R2.cnt.2.cnt.2.fix 2).1))).1, (okI ((R2.cnt.2.cnt.2.fix 2).2.fix 2).2 (sessP c) (trkP c (IntKind.u16.wrap (R2.cnt.2.cnt.2.fix 2).1))).2⟩ OkV.z := by unfold okV; rw [hRa, hS5, hX]
 rw [hRa, hV]
 clear hRa hV hX
 have b5 : But (h.nx + 1) hA h5 := ((((r1.2.trans r2.2).trans r3.2).trans r4.2).trans r5.2)
 generalize ((R2.cnt.2.cnt.2.fix 2).2.fix 2).2 = R6 at *
 generalize (IntKind.u16.wrap (R2.cnt.2.cnt.2.fix 2).1) = st at *
 generalize ((R2.cnt.2.cnt.2.fix 2).2.fix 2).1 = x5 at *
 obtain ⟨x4, hx4⟩ : ∃ x4, x4 = IntKind.u16.wrap x5 := ⟨_, rfl⟩
 rw [← hx4]
 generalize R2.cnt.1 = x1 at *
 generalize R2.cnt.2.cnt.1 = x2 at *
 have l7 : R6.bs.length < 2 ^ 28 := by omega
 have b5n := b5.1
 have gZ5 : h5.get h.nx = some (.cells oz 45 false) := by rw [b5.2 _ (by omega) (by omega)]; exact gZ
 obtain ⟨⟨v5, g5, hb5, ho5⟩, hlt5⟩ := r5.1
 refine wr1 g5 ?_
 refine ⟨.inr (by omega), ?_⟩
 generalize hhC : H.put _ _ _ = hC
 have hxC : Ext h5 hC := by rw [← hhC]; exact Ext.new _ _ _
 have hnC : hC.nx = h5.nx + 1 := by rw [← hhC]; rfl
 have gC : hC.get h5.nx = some (.cells [.int .u64 x1, .int .u64 x2, .int .u16 st, .int .u16 x4, .str [], .nilslice] 45 false) := by rw [← hhC, hx4]; exact put_eq rfl
 clear hhC
 have gZC : hC.get h.nx = some (.cells oz 45 false) := by rw [hxC.2 _ (by omega)]; exact gZ5
 have rC : RdS 5 121 h.nx (h.nx + 1) R6 hC := r5.1.ext hxC
 have gRC : hC.get (h.nx + 1) = some (.cells [v5, .int .i64 R6.e] 121 false) := by rw [hxC.2 _ (by omega)]; exact g5
 refine run_blk_cut (fun env' h' => env' 4 = .ptr h.nx 0 ∧ env' 6 = .ptr (h.nx + 1) 0 ∧ env' 7 = .ptr h5.nx 0 ∧ RdS 5 121 h.nx (h.nx + 1) (okR l (sessP c) (trkP c st)) h' ∧ Ext h h' ∧ h'.get h.nx = some (.cells oz 45 false) ∧ h5.nx < h'.nx ∧ ∃ y, h'.get h5.nx = some (.cells [.int .u64 x1, .int .u64 x2, .int .u16 st, .int .u16 x4, .str (okI R6 (sessP c) (trkP c st)).1, y] 45 false) ∧ BS 5 h' y (okI R6 (sessP c) (trkP c st)).2 ∧ ∀ k, k ≤ h.nx + 1 → Off y k) ?_ ?_
 ·have hxhC : Ext h hC := But.ext hxA (b5.trans (But.of_ext hxC)) (by omega)
  by_cases he : R6.e ≠ 0
  ·have hI : okI R6 (sessP c) (trkP c st) = ([], []) := if_pos he
   rw [hRb, if_pos he, hI]
   have he' : ¬ R6.e = 0 := he
   refine ww1 (cj gRC he') ?_
   exact ⟨rC, hxhC, gZC, by omega, .nilslice, gC, BS.nil _ _, fun k _ o n m q => by cases q⟩
  have he0 : R6.e = 0 := Classical.not_not.1 he
  refine ww1 (cj gRC he0) ?_
  refine callF_exact (has_spec hS c 8388608 _) ?_
  by_cases hs : sessP c
  ·have hs' : hasP c 8388608 := hs
   refine ww1 (cj hs' gC) ?_
   refine callF_pure (tracked_spec hS c _ _ _ _ _ _ ⟨rfl, rfl⟩ _) ?_
   rintro _ hD hxD rfl
   have gD : hD.get h5.nx = some (.cells [.int .u64 x1, .int .u64 x2, .int .u16 st, .int .u16 x4, .str [], .nilslice] 45 false) := by rw [hxD.2 _ (by omega)]; exact gC
   have gZD : hD.get h.nx = some (.cells oz 45 false) := by rw [hxD.2 _ (by omega)]; exact gZC
   have gRD : hD.get (h.nx + 1) = some (.cells [v5, .int .i64 R6.e] 121 false) := by rw [hxD.2 _ (by omega)]; exact gRC
   have hnD := hxD.1
   have rD := rC.ext hxD
   have hxhD := hxhC.trans hxD
   by_cases ht : trkP c st
   ·have hI : okI R6 (sessP c) (trkP c st) = (R6.txt.1, R6.txt.2.txt.1) := by unfold okI; rw [if_neg he, if_pos hs, if_pos ht]
    rw [hRb, if_neg he, if_pos hs, if_pos ht, hI]
    refine ww1 ht ?_
    refine callF_of (txt_spec hS rD (by omega)) okf ?_
    rintro _ h8 ⟨rfl, r8⟩
    have n8 := r8.2.1
    have g8 : h8.get h5.nx = some (.cells [.int .u64 x1, .int .u64 x2, .int .u16 st, .int .u16 x4, .str [], .nilslice] 45 false) := by rw [r8.2.2 _ (by omega) (by omega)]; exact gD
    have gZ8 : h8.get h.nx = some (.cells oz 45 false) := by rw [r8.2.2 _ (by omega) (by omega)]; exact gZD
    have hxh8 : Ext h h8 := But.ext hxhD r8.2 (by omega)
    refine ww1 g8 ?_
    refine ⟨.inr (by omega), ?_⟩
    generalize hh9 : H.put h8 _ _ = h9
    have hn9 : h9.nx = h8.nx := by rw [← hh9]; rfl
    have g9 : h9.get h5.nx = some (.cells [.int .u64 x1, .int .u64 x2, .int .u16 st, .int .u16 x4, .str R6.txt.1, .nilslice] 45 false) := by rw [← hh9]; exact put_eq rfl
    have gZ9 : h9.get h.nx = some (.cells oz 45 false) := by rw [← hh9, put_ne (by omega)]; exact gZ8
    have hxh9 : Ext h h9 := by rw [← hh9]; exact hxh8.put (by omega) _
    have r9 : RdS 5 121 h.nx (h.nx + 1) R6.txt.2 h9 := r8.1.keep (by omega) (by rw [← hh9, put_ne (by omega)]) fun k hk => by rw [← hh9, put_ne (by omega)]
    clear hh9
    have l8 := Rd.txt_len R6
    refine callF_of (txt_spec hS r9 (by omega)) okf ?_
    rintro _ hE ⟨rfl, rE⟩
    have nE := rE.2.1
    have gE : hE.get h5.nx = some (.cells [.int .u64 x1, .int .u64 x2, .int .u16 st, .int .u16 x4, .str R6.txt.1, .nilslice] 45 false) := by rw [rE.2.2 _ (by omega) (by omega)]; exact g9
    have gZE : hE.get h.nx = some (.cells oz 45 false) := by rw [rE.2.2 _ (by omega) (by omega)]; exact gZ9
    have hxhE : Ext h hE := But.ext hxh9 rE.2 (by omega)
    have qE : ¬ h5.nx = hE.nx := by omega
    refine ww1 (cj gE qE) ?_
    refine ⟨.inr (by omega), ?_, (hxhE.push _).put (by omega) _, ?_, by omega, _, rfl, ?_, fun k hk o n m q => by injection q; omega⟩
    ·exact rE.1.keep (by simp only [put_nx, push_nx]; omega) (by rw [put_ne (by omega), push_ne (by omega)]) fun k hk => by rw [put_ne (by omega), push_ne (by omega)]
    ·exact gZE
    ·have hbt : ∀ x ∈ R6.txt.2.txt.1, x < 256 := by
      obtain ⟨⟨v9, _, hb9, _⟩, _⟩ := r9
      exact txt_bytes hb9.1
     exact ⟨hbt, .inr ⟨hE.nx, 0, _, rfl, by simp only [put_nx, push_nx]; omega, Nat.le_refl _, by rw [put_ne (by omega), push_eq rfl]; exact rdC_all (bytesV_length _), fun kc e' fl q hf => by rw [put_ne (by omega), push_eq rfl] at q; cases q; rfl⟩⟩
   ·have hlen := hb5.len 5
    by_cases hb0 : R6.bs = []
    ·have hI : okI R6 (sessP c) (trkP c st) = ([], []) := by unfold okI; rw [if_neg he, if_pos hs, if_neg ht, if_neg (fun q => q hb0)]
     rw [hRb, if_neg he, if_pos hs, if_neg ht, if_neg (fun q => q hb0), hI]
     have hb1 : ¬ 0 < R6.bs.length := by rw [hb0]; decide
     refine ww1 (cj ht <| cj gRD <| cj hlen hb1) ?_
     exact ⟨rD, hxhD, gZD, by omega, .nilslice, gD, BS.nil _ _, fun k _ o n m q => by cases q⟩
    ·have hI : okI R6 (sessP c) (trkP c st) = (R6.txt.1, []) := by unfold okI; rw [if_neg he, if_pos hs, if_neg ht, if_pos hb0]
     rw [hRb, if_neg he, if_pos hs, if_neg ht, if_pos hb0, hI]
     have hb1 : 0 < R6.bs.length := List.length_pos_iff.2 hb0
     refine ww1 (cj ht <| cj gRD <| cj hlen hb1) ?_
     refine callF_of (txt_spec hS rD (by omega)) okf ?_
     rintro _ h8 ⟨rfl, r8⟩
     have n8 := r8.2.1
     have g8 : h8.get h5.nx = some (.cells [.int .u64 x1, .int .u64 x2, .int .u16 st, .int .u16 x4, .str [], .nilslice] 45 false) := by rw [r8.2.2 _ (by omega) (by omega)]; exact gD
     have gZ8 : h8.get h.nx = some (.cells oz 45 false) := by rw [r8.2.2 _ (by omega) (by omega)]; exact gZD
     have hxh8 : Ext h h8 := But.ext hxhD r8.2 (by omega)
     refine ww1 g8 ?_
     refine ⟨.inr (by omega), ?_, hxh8.put (by omega) _, ?_, by omega, .nilslice, rfl, BS.nil _ _, fun k _ o n m q => by cases q⟩
     ·exact r8.1.keep (Nat.le_refl _) (by rw [put_ne (by omega)]) fun k hk => by rw [put_ne (by omega)]
     ·exact gZ8
  ·have hI : okI R6 (sessP c) (trkP c st) = (R6.bs, []) := by unfold okI; rw [if_neg he, if_neg hs]
   rw [hRb, if_neg he, if_neg hs, hI]
   have hs' : ¬ hasP c 8388608 := hs
   refine ww1 hs' ?_
   refine callF_of (rest_spec hS rC l7) okf ?_
   rintro w8 h8 ⟨hw8, r8⟩
   have n8 := r8.2.1
   have g8 : h8.get h5.nx = some (.cells [.int .u64 x1, .int .u64 x2, .int .u16 st, .int .u16 x4, .str [], .nilslice] 45 false) := by rw [r8.2.2 _ (by omega) (by omega)]; exact gC
   have gZ8 : h8.get h.nx = some (.cells oz 45 false) := by rw [r8.2.2 _ (by omega) (by omega)]; exact gZC
   have hxh8 : Ext h h8 := But.ext hxhC r8.2 (by omega)
   obtain ⟨L8, _, hc8⟩ := hw8.str
   refine ww1 (cj hc8 g8) ?_
   refine ⟨.inr (by omega), ?_, hxh8.put (by omega) _, ?_, by omega, .nilslice, rfl, BS.nil _ _, fun k _ o n m q => by cases q⟩
   ·exact r8.1.keep (Nat.le_refl _) (by rw [put_ne (by omega)]) fun k hk => by rw [put_ne (by omega)]
   ·exact gZ8
 ·rintro env' h6 ⟨e4, e6, e7, r6, hx6, gZ6, hn6, y, gO6, hy, hyo⟩
  obtain ⟨yc1, yc2⟩ := hy.cell
  refine ww1 (cj e4 <| cj e6 e7) ?_
  refine callF_of (over_spec hS r6) okf ?_
  rintro _ h7 ⟨rfl, r7⟩
  have gZ7 : h7.get h.nx = some (.cells oz 45 false) := by rw [r7.2.2 _ (by omega) (by omega)]; exact gZ6
  unfold oz at gZ7
  have gO7 : h7.get h5.nx = some (.cells [.int .u64 x1, .int .u64 x2, .int .u16 st, .int .u16 x4, .str (okI R6 (sessP c) (trkP c st)).1, y] 45 false) := by rw [r7.2.2 _ hn6 (by omega)]; exact gO6
  have hx7 : Ext h h7 := But.ext hx6 r7.2 (by omega)
  have hy7 : BS 5 h7 y (okI R6 (sessP c) (trkP c st)).2 := hy.keep r7.2.1 fun k hk ⟨o, n, m, q⟩ => r7.2.2 k hk fun e => hyo k (by omega) o n m q
  by_cases he : (overF (okR l (sessP c) (trkP c st))).e = 0
  ·have he' := eq_true he
   have he2 : (okR l (sessP c) (trkP c st)).over.e = 0 := he
   rw [if_pos he2]
   unfold OkV.cells
   refine ww1 (cj e4 <| cj e6 <| cj e7 <| cj gZ7 <| cj gO7 <| cj he' <| cj he2 <| cj yc1 yc2) ?_
   exact ⟨hx7.put (Nat.le_refl _) _, y, rfl, hy7.put (hyo _ (by omega)), fun k hk => hyo k (by omega)⟩
  ·have he2 : ¬ (okR l (sessP c) (trkP c st)).over.e = 0 := he
   rw [if_neg he2]
   unfold OkV.cells OkV.z
   refine ww1 (cj e4 <| cj e6 <| cj e7 <| cj gZ7 <| cj gO7 he) ?_
   exact ⟨hx7.put (Nat.le_refl _) _, .nilslice, rfl, BS.nil _ _, fun k _ o n m q => by cases q⟩
end
noncomputable section
structure GS (tt : TypeId) (z : List V) (h : H) (o : Nat) (R : Rd) (cs : List V) (h' : H) : Prop where
 rd : RdS 5 121 h.nx (h.nx + 1) R h'
 ext : Ext h h'
 z : h'.get h.nx = some (.cells z tt false)
 ob : h'.get o = some (.cells cs tt false)
 lt : h.nx + 1 < o ∧ o < h'.nx
theorem GS.call {tt : TypeId} {z : List V} {h : H} {o : Nat} {R R1 : Rd} {cs : List V} {h1 h2 : H} (a : GS tt z h o R cs h1) (b : RdR 121 h.nx (h.nx + 1) R1 h1 h2) : GS tt z h o R1 cs h2 := by
 have l1 := a.lt
 have n2 := b.2.1
 exact ⟨b.1, But.ext a.ext b.2 (by omega), by rw [b.2.2 _ (by omega) (by omega)]; exact a.z, by rw [b.2.2 _ (by omega) (by omega)]; exact a.ob, by omega, by omega⟩
theorem GS.put {tt : TypeId} {z : List V} {h : H} {o : Nat} {R : Rd} {cs : List V} {h1 : H} (a : GS tt z h o R cs h1) (cs' : List V) : GS tt z h o R cs' (h1.put o (.cells cs' tt false)) := by
 have l1 := a.lt
 exact ⟨a.rd.keep (Nat.le_refl _) (put_ne (by omega)) fun k hk => put_ne (by omega), a.ext.put (by omega) _, by rw [put_ne (by omega)]; exact a.z, put_eq rfl, l1⟩
theorem GS.ext2 {tt : TypeId} {z : List V} {h : H} {o : Nat} {R : Rd} {cs : List V} {h1 h2 : H} (a : GS tt z h o R cs h1) (hx : Ext h1 h2) : GS tt z h o R cs h2 := by
 have l1 := a.lt
 exact ⟨a.rd.ext hx, a.ext.trans hx, by rw [hx.2 _ (by omega)]; exact a.z, by rw [hx.2 _ (by omega)]; exact a.ob, l1.1, Nat.lt_of_lt_of_le l1.2 hx.1⟩
theorem bs_one {h : H} (c k : Nat) (hk : k = h.nx) (hc : c < 256) : BS 5 (h.push (.cells [.int .u8 c] 5 false)) (.slice k 0 1 1) [c] := by
 refine ⟨fun x hx => by rw [List.mem_singleton.1 hx]; exact hc, .inr ⟨k, 0, 1, rfl, by rw [hk]; exact Nat.lt_succ_self _, Nat.le_refl _, ?_, fun kc e' fl q hf => ?_⟩⟩
 ·rw [push_eq hk]; rfl
 ·rw [push_eq hk] at q; cases q; cases hf
theorem must_one (x : Int) (c : Nat) (hx : 0 ≤ x) : (idxNats [c] x.toNat < 0) = (x ≠ c) := by
 obtain ⟨n, rfl⟩ : ∃ n : Nat, x = n := ⟨x.toNat, by omega⟩
 rw [Int.toNat_natCast]
 by_cases h0 : n = c
 ·subst h0
  have : idxNats [n] n = 0 := by simp [idxNats]
  rw [this]
  exact propext ⟨fun q => absurd q (by decide), fun q => absurd rfl q⟩
 ·have e0 : (c == n) = false := by simpa using fun q => h0 q.symm
  have e : idxNats [c] n = -1 := by simp [idxNats, e0]
  rw [e]
  exact propext ⟨fun _ q => h0 (by omega), fun _ => by decide⟩
theorem must_no {c d : Nat} {t : List Nat} (hb : ∀ x ∈ c :: t, x < 256) (hne : c ≠ d) : mustF ⟨c :: t, 0⟩ [d] = ⟨t, 5⟩ := by
 have hf := Rd.byt_fix (R := ⟨c :: t, 0⟩) hb
 unfold mustF
 rw [hf.1, hf.2, must_one _ _ (Rd.byt_in (R := ⟨c :: t, 0⟩) hb).1]
 have e : (Rd.mk (c :: t) 0).byt = ((c : Int), ⟨t, 0⟩) := rfl
 rw [e]
 exact Rd.bad_yes ⟨rfl, by show (c : Int) ≠ d; omega⟩
theorem mustF_len (R : Rd) (ls : List Nat) : (mustF R ls).bs.length ≤ R.bs.length := by
 unfold mustF
 rw [Rd.bad_bs]
 exact Rd.fix_len _ _
theorem u16_wrap_in (n : Int) : 0 ≤ IntKind.u16.wrap n ∧ IntKind.u16.wrap n < 65536 := by
 rw [IntKind.wrap_u16]; omega
def eofG (R : Rd) : Int × Int × Int := @ite _ ((overF ((R.fix 2).2.fix 2).2).e = 0) (Classical.propDecidable _) (IntKind.u16.wrap (R.fix 2).1, IntKind.u16.wrap ((R.fix 2).2.fix 2).1, 0) (0, 0, (overF ((R.fix 2).2.fix 2).2).e)
def eofF (l : List Nat) : Int × Int × Int := eofG (mustF ⟨l, 0⟩ [254])
theorem eofF_err {l t : List Nat} (hb : ∀ x ∈ l, x < 256) (h : l = 255 :: t) : (eofF l).2.2 ≠ 0 := by
 have h0 : (mustF ⟨l, 0⟩ [254]).e ≠ 0 := by
  have hb : ∀ x ∈ 255 :: t, x < 256 := by rw [← h]; exact hb
  rw [h, must_no hb (by decide)]
  show (5 : Int) ≠ 0
  decide
 unfold eofF
 generalize mustF ⟨l, 0⟩ [254] = R2 at *
 have q : (overF ((R2.fix 2).2.fix 2).2).e ≠ 0 := by
  rw [Rd.fix_err 2 h0, Rd.fix_err 2 h0]
  show (R2.bad _).e ≠ 0
  rw [Rd.bad_no fun w => h0 w.1]
  exact h0
 unfold eofG
 rw [if_neg q]
 exact q
def prepH (R2 R3 R4 R6 : Int × Rd) : Int × Int × Int × Int × Int := @ite _ ((overF R6.2).e = 0) (Classical.propDecidable _) (IntKind.u32.wrap R2.1, IntKind.u16.wrap R3.1, IntKind.u16.wrap R4.1, IntKind.u16.wrap R6.1, 0) (0, 0, 0, 0, (overF R6.2).e)
def prepG (R : Rd) : Int × Int × Int × Int × Int := prepH (R.fix 4) ((R.fix 4).2.fix 2) (((R.fix 4).2.fix 2).2.fix 2) ((mustF (((R.fix 4).2.fix 2).2.fix 2).2 [0]).fix 2)
def prepF (l : List Nat) : Int × Int × Int × Int × Int := prepG (mustF ⟨l, 0⟩ [0])
theorem prepF_in (l : List Nat) : 0 ≤ (prepF l).2.1 ∧ (prepF l).2.1 < 65536 ∧ 0 ≤ (prepF l).2.2.1 ∧ (prepF l).2.2.1 < 65536 := by
 unfold prepF prepG prepH
 split
 ·have a := u16_wrap_in ((((mustF ⟨l, 0⟩ [0]).fix 4).2.fix 2).1)
  have b := u16_wrap_in ((((mustF ⟨l, 0⟩ [0]).fix 4).2.fix 2).2.fix 2).1
  exact ⟨a.1, a.2, b.1, b.2⟩
 ·exact ⟨Int.le_refl 0, (by decide : (0 : Int) < 65536), Int.le_refl 0, (by decide : (0 : Int) < 65536)⟩
structure StdG (S : Set0) : Prop extends StdB S where
 ownG : ∀ f, f ∈ [100, 72, 65, 61, 67, 136, 94] → sums S.exts f = none
variable {S : Set0} (hS : StdG S)
include hS
theorem readeof_spec {v : V} {l : List Nat} {h : H} (a : BS 5 h v l) (hl : l.length < 2 ^ 28) : Pure S.cfg 100 [v] h fun w _ => w = .tuple [.agg [.int .u16 (eofF l).1, .int .u16 (eofF l).2.1], .int .i64 (eofF l).2.2] := by
 refine into Tryz.f100 _ Tryz.func100 (hS.ownG _ (by decide)) rfl rfl (by kernel_rfl) (by kernel_rfl) ?_
 obtain ⟨c1, c2⟩ := a.cell
 refine ww1 (cj @Tryz.f100.eq_1 <| cj c1 c2) ?_
 generalize hhA : H.push (H.push h _) _ = hA
 have hxA : Ext h hA := by rw [← hhA]; exact ((Ext.refl h).push _).push _
 have hnA : hA.nx = h.nx + 2 := by rw [← hhA]; rfl
 have gR : hA.get (h.nx + 1) = some (.cells [v, .int .i64 0] 121 false) := by rw [← hhA]; exact push_eq rfl
 have gZ : hA.get h.nx = some (.cells [.int .u16 0, .int .u16 0] 49 false) := by rw [← hhA, push_ne (by simp only [push_nx]; omega)]; exact push_eq rfl
 clear hhA
 have a2 : RdS 5 121 h.nx (h.nx + 1) ⟨l, 0⟩ hA := ⟨⟨v, gR, a.ext hxA, fun k hk => a.off hk⟩, by omega, by omega⟩
 have okf : ∀ k, k = h.nx + 1 → fresh h.nx nil1 k := fun k hk => by rw [fresh_def]; exact .inl (by omega)
 have al := bs_one (h := hA) 254 (h.nx + 1 + 1) (by omega) (by decide)
 refine callF_of (must_spec hS.toStdB (a2.ext ((Ext.refl hA).push _)) (by show l.length < _; omega) al (fun o n m q => by injection q; omega)) okf ?_
 rintro w1 h1 r1
 have r1 : RdR 121 h.nx (h.nx + 1) (mustF ⟨l, 0⟩ [254]) hA h1 := ⟨r1.1, (But.of_ext ((Ext.refl hA).push _)).trans r1.2⟩
 have l2 : (mustF ⟨l, 0⟩ [254]).bs.length ≤ l.length := mustF_len _ _
 have hF : eofF l = eofG (mustF ⟨l, 0⟩ [254]) := rfl
 rw [hF]
 clear hF
 generalize mustF ⟨l, 0⟩ [254] = R2 at *
 refine ww0 ?_
 refine callF_of (fix_spec hS.toStdB r1.1 (by omega) 2 (by omega)) okf ?_
 have l3 := Rd.fix_len R2 2
 rintro _ h2 ⟨rfl, r2⟩
 refine ww0 ?_
 refine callF_of (fix_spec hS.toStdB r2.1 (by omega) 2 (by omega)) okf ?_
 rintro _ h3 ⟨rfl, r3⟩
 have n1 := r1.2.1
 have n2 := r2.2.1
 have n3 := r3.2.1
 have b3 : But (h.nx + 1) hA h3 := (r1.2.trans r2.2).trans r3.2
 refine ww0 ?_
 refine ⟨.inr (by omega), ?_⟩
 generalize hhC : H.put _ _ _ = hC
 have hxC : Ext h3 hC := by rw [← hhC]; exact Ext.new _ _ _
 have hnC : hC.nx = h3.nx + 1 := by rw [← hhC]; rfl
 have fC : GS 49 [.int .u16 0, .int .u16 0] h h3.nx ((R2.fix 2).2.fix 2).2 [.int .u16 (IntKind.u16.wrap (R2.fix 2).1), .int .u16 (IntKind.u16.wrap ((R2.fix 2).2.fix 2).1)] hC := ⟨r3.1.ext hxC, But.ext hxA (b3.trans (But.of_ext hxC)) (by omega), by rw [hxC.2 _ (by omega), b3.2 _ (by omega) (by omega)]; exact gZ, by rw [← hhC]; exact put_eq rfl, by omega, by omega⟩
 clear hhC
 refine callF_of (over_spec hS.toStdB fC.rd) okf ?_
 rintro _ h4 ⟨rfl, r4⟩
 have f4 := fC.call r4
 have gZ4 := f4.z
 have gO4 := f4.ob
 have n4 := f4.lt
 by_cases he : (overF ((R2.fix 2).2.fix 2).2).e = 0
 ·have he' := eq_true he
  unfold eofG
  rw [if_pos he]
  refine ww1 (cj gZ4 <| cj gO4 he') ?_
  exact f4.ext.put (Nat.le_refl _) _
 ·unfold eofG
  rw [if_neg he]
  refine ww1 (cj gZ4 <| cj gO4 he) ?_
  exact f4.ext.put (Nat.le_refl _) _
theorem readprep_spec {v : V} {l : List Nat} {h : H} (a : BS 5 h v l) (hl : l.length < 2 ^ 28) : Pure S.cfg 65 [v] h fun w _ => w = .tuple [.agg [.int .u32 (prepF l).1, .int .u16 (prepF l).2.1, .int .u16 (prepF l).2.2.1, .int .u16 (prepF l).2.2.2.1], .int .i64 (prepF l).2.2.2.2] := by
 refine into Tryz.f65 _ Tryz.func65 (hS.ownG _ (by decide)) rfl rfl (by kernel_rfl) (by kernel_rfl) ?_
 obtain ⟨c1, c2⟩ := a.cell
 refine ww1 (cj @Tryz.f65.eq_1 <| cj c1 c2) ?_
 generalize hhA : H.push (H.push h _) _ = hA
 have hxA : Ext h hA := by rw [← hhA]; exact ((Ext.refl h).push _).push _
 have hnA : hA.nx = h.nx + 2 := by rw [← hhA]; rfl
 have gR : hA.get (h.nx + 1) = some (.cells [v, .int .i64 0] 121 false) := by rw [← hhA]; exact push_eq rfl
 have gZ : hA.get h.nx = some (.cells [.int .u32 0, .int .u16 0, .int .u16 0, .int .u16 0] 51 false) := by rw [← hhA, push_ne (by simp only [push_nx]; omega)]; exact push_eq rfl
 clear hhA
 have a2 : RdS 5 121 h.nx (h.nx + 1) ⟨l, 0⟩ hA := ⟨⟨v, gR, a.ext hxA, fun k hk => a.off hk⟩, by omega, by omega⟩
 have okf : ∀ k, k = h.nx + 1 → fresh h.nx nil1 k := fun k hk => by rw [fresh_def]; exact .inl (by omega)
 have al := bs_one (h := hA) 0 (h.nx + 1 + 1) (by omega) (by decide)
 refine callF_of (must_spec hS.toStdB (a2.ext ((Ext.refl hA).push _)) (by show l.length < _; omega) al (fun o n m q => by injection q; omega)) okf ?_
 rintro w1 h1 r1
 have r1 : RdR 121 h.nx (h.nx + 1) (mustF ⟨l, 0⟩ [0]) hA h1 := ⟨r1.1, (But.of_ext ((Ext.refl hA).push _)).trans r1.2⟩
 have l2 : (mustF ⟨l, 0⟩ [0]).bs.length ≤ l.length := mustF_len _ _
 have hF : prepF l = prepG (mustF ⟨l, 0⟩ [0]) := rfl
 rw [hF]
 clear hF
 generalize mustF ⟨l, 0⟩ [0] = R2 at *
 unfold prepG
 refine ww0 ?_
 refine callF_of (fix_spec hS.toStdB r1.1 (by omega) 4 (by omega)) okf ?_
 have l3 := Rd.fix_len R2 4
 rintro _ h2 ⟨rfl, r2⟩
 refine ww0 ?_
 refine callF_of (fix_spec hS.toStdB r2.1 (by omega) 2 (by omega)) okf ?_
 have l4 := Rd.fix_len (R2.fix 4).2 2
 rintro _ h3 ⟨rfl, r3⟩
 refine ww0 ?_
 refine callF_of (fix_spec hS.toStdB r3.1 (by omega) 2 (by omega)) okf ?_
 have l5 := Rd.fix_len ((R2.fix 4).2.fix 2).2 2
 rintro _ h4 ⟨rfl, r4⟩
 have n1 := r1.2.1
 have n2 := r2.2.1
 have n3 := r3.2.1
 have n4 := r4.2.1
 have b4 : But (h.nx + 1) hA h4 := ((r1.2.trans r2.2).trans r3.2).trans r4.2
 refine ww0 ?_
 refine ⟨.inr (by omega), ?_⟩
 have wy := u16_wrap_in ((R2.fix 4).2.fix 2).1
 have wz := u16_wrap_in (((R2.fix 4).2.fix 2).2.fix 2).1
 generalize hhC : H.put _ _ _ = hC
 have hxC : Ext h4 hC := by rw [← hhC]; exact Ext.new _ _ _
 have hnC : hC.nx = h4.nx + 1 := by rw [← hhC]; rfl
 have fC : GS 51 [.int .u32 0, .int .u16 0, .int .u16 0, .int .u16 0] h h4.nx (((R2.fix 4).2.fix 2).2.fix 2).2 [.int .u32 (IntKind.u32.wrap (R2.fix 4).1), .int .u16 (IntKind.u16.wrap ((R2.fix 4).2.fix 2).1), .int .u16 (IntKind.u16.wrap (((R2.fix 4).2.fix 2).2.fix 2).1), .int .u16 0] hC := ⟨r4.1.ext hxC, But.ext hxA (b4.trans (But.of_ext hxC)) (by omega), by rw [hxC.2 _ (by omega), b4.2 _ (by omega) (by omega)]; exact gZ, by rw [← hhC]; exact put_eq rfl, by omega, by omega⟩
 clear hhC
 generalize hR5 : (((R2.fix 4).2.fix 2).2.fix 2).2 = R5 at *
 have al2 := bs_one (h := hC) 0 (h4.nx + 1) (by omega) (by decide)
 have fD := fC.ext2 ((Ext.refl hC).push (.cells [.int .u8 (0 : Nat)] 5 false))
 refine callF_of (must_spec hS.toStdB fD.rd (by omega) al2 (fun o n m q => by injection q; have := fC.lt; omega)) okf ?_
 have l6 := mustF_len R5 [0]
 rintro _ h5 r5
 have f5 := fD.call r5
 generalize mustF R5 [0] = R6 at *
 refine ww0 ?_
 refine callF_of (fix_spec hS.toStdB f5.rd (by omega) 2 (by omega)) okf ?_
 rintro _ h6 ⟨rfl, r6⟩
 have f6 := f5.call r6
 have g6 := f6.ob
 have n6 := f6.lt
 refine ww1 g6 ?_
 refine ⟨.inr (by omega), callF_of (over_spec hS.toStdB (f6.put _).rd) okf ?_⟩
 rintro _ h7 ⟨rfl, r7⟩
 have f7 := (f6.put _).call r7
 have gZ7 := f7.z
 have gO7 := f7.ob
 by_cases he : (overF (R6.fix 2).2).e = 0
 ·have he' := eq_true he
  unfold prepH
  rw [if_pos he]
  refine ww1 (cj gZ7 <| cj gO7 he') ?_
  exact f7.ext.put (Nat.le_refl _) _
 ·unfold prepH
  rw [if_neg he]
  refine ww1 (cj gZ7 <| cj gO7 he) ?_
  exact f7.ext.put (Nat.le_refl _) _
end
noncomputable section
structure StdF (S : Set0) : Prop extends StdB S where
 ownF : ∀ f, f ∈ [150, 123, 151, 132, 120, 121, 148, 127, 125, 122, 129, 116, 149, 119, 76] → sums S.exts f = none
variable {S : Set0} (hS : StdF S)
include hS
theorem xrfx_spec {v : V} {l : List Nat} {h : H} (a : BS 5 h v l) (hl : l.length < 2 ^ 62) (n : Nat) (hn : 1 ≤ n ∧ n ≤ 8) : Exact S.cfg 150 [v, .int .i64 n] h (.tuple [.int .u64 (if l.length < n then 0 else rdX l n), .int .i64 (if l.length < n then 4 else 0)]) := by
 refine into Tryz.f150 _ Tryz.func150 (hS.ownF _ (by decide)) rfl rfl (by kernel_rfl) (by kernel_rfl) ?_
 have a1 := a.len 5
 have n1 : ¬ n < 1 := by omega
 have n2 : ¬ 8 < n := by omega
 by_cases h1 : l.length < n
 ·rw [if_pos h1, if_pos h1]
  exact wv1 (cj @Tryz.f150.eq_1 <| cj a1 <| cj h1 <| cj n1 n2)
 rw [if_neg h1, if_neg h1]
 obtain ⟨b, o, m, rfl, _, _⟩ := a.at (i := 0) (by omega)
 obtain ⟨_, hb, hrd⟩ := a.rd
 refine ww1 (cj @Tryz.f150.eq_1 <| cj a1 <| cj h1 <| cj n1 n2) ?_
 refine run_loop (fun k env h' => ∃ i : Nat, k = n - i ∧ i ≤ n ∧ env 0 = .slice b o l.length m ∧ env 1 = .int .i64 n ∧ env 7 = .int .i64 i ∧ env 6 = .int .u64 (rdX l i) ∧ h' = h) n ⟨0, ?_⟩ ?_
 ·refine ww0 ?_
  exact ⟨rfl, rfl⟩
 rintro k env h' ⟨i, rfl, hi, e0, e18, e19, e6, rfl⟩
 by_cases hin : i < n
 ·have hr := hrd i (by omega)
  have hby := byI_in a.1 i
  have hil : i < l.length := by omega
  have w0 : IntKind.u64.wrap (i : Int) = i := u64_in _ (by omega)
  have w1 : IntKind.u64.wrap (8 * (i : Int)) = 8 * (i : Int) := u64_in _ (by omega)
  have w2 : ¬ (8 * (i : Int) < 0) := by omega
  have w3 : IntKind.u64.wrap (byI l i) = byI l i := u64_in _ (by omega)
  refine ww1 (cj e0 <| cj e18 <| cj e19 <| cj e6 <| cj hin <| cj hil <| cj hr <| cj w0 <| cj w1 <| cj w2 w3) ?_
  exact ⟨_, by omega, i + 1, rfl, by omega, rfl, rfl⟩
 ·obtain rfl : i = n := by omega
  exact wv1 (cj e0 <| cj e18 <| cj e19 <| cj e6 hin)
theorem xrin_spec {v : V} {l : List Nat} {h : H} (a : BS 5 h v l) (hl : l.length < 2 ^ 62) : Exact S.cfg 123 [v] h (.tuple [.int .u64 (iiF l).1, .int .i64 ((iiF l).2.1 : Nat), .int .i64 (iiF l).2.2]) := by
 refine into Tryz.f123 _ Tryz.func123 (hS.ownF _ (by decide)) rfl rfl (by kernel_rfl) (by kernel_rfl) ?_
 have a1 := a.len 5
 by_cases h0 : l.length = 0
 ·have e : iiF l = (0, 0, 4) := by unfold iiF; rw [if_pos h0]
  rw [e]
  refine ww1 (cj @Tryz.f123.eq_1 <| cj a1 h0) ?_
  rfl
 obtain ⟨b, o, m, rfl, _, _⟩ := a.at (i := 0) (by omega)
 obtain ⟨_, hb, hrd⟩ := a.rd
 have hr := hrd 0 (by omega)
 rw [Nat.add_zero] at hr
 have hby := byI_in a.1 0
 have hl0 : 0 < l.length := by omega
 have w3 : IntKind.u64.wrap (byI l 0) = byI l 0 := u64_in _ (by omega)
 have w4 : IntKind.i64.wrap (byI l 0) = byI l 0 := i64_in _ (by omega)
 have w5 : IntKind.i64.wrap (byI l 0 - 250) = byI l 0 - 250 := i64_in _ (by omega)
 by_cases h1 : byI l 0 ≤ 250
 ·have e : iiF l = (byI l 0, 1, 0) := by unfold iiF; rw [if_neg h0, if_pos h1]
  rw [e]
  refine ww1 (cj @Tryz.f123.eq_1 <| cj a1 <| cj h0 <| cj hl0 <| cj hr <| cj w3 h1) ?_
  rfl
 by_cases h2 : byI l 0 = 251 ∨ byI l 0 = 255
 ·have e : iiF l = (0, 0, 5) := by unfold iiF; rw [if_neg h0, if_neg h1, if_pos h2]
  rw [e]
  rcases h2 with h2 | h2
  ·have h2 := eq_true h2
   refine ww1 (cj @Tryz.f123.eq_1 <| cj a1 <| cj h0 <| cj hl0 <| cj hr <| cj w3 <| cj h1 h2) ?_
   rfl
  ·have n4 : ¬ byI l 0 = 251 := by omega
   have h2 := eq_true h2
   refine ww1 (cj @Tryz.f123.eq_1 <| cj a1 <| cj h0 <| cj hl0 <| cj hr <| cj w3 <| cj h1 <| cj n4 h2) ?_
   rfl
 have n4 : ¬ byI l 0 = 251 := by omega
 have n5 : ¬ byI l 0 = 255 := by omega
 have hs := iiS_in (byI l 0)
 have hd : (l.drop 1).length = l.length - 1 := List.length_drop
 have key : ∀ n : Nat, iiS (byI l 0) = n → iiF l = if l.length - 1 < n then (0, 0, 4) else (rdX (l.drop 1) n, n + 1, 0) := fun n hn => by
  unfold iiF; rw [if_neg h0, if_neg h1, if_neg h2, hn]
 by_cases c3 : byI l 0 = 254
 ·rw [key 8 (by unfold iiS; rw [if_neg (by omega), if_neg (by omega)])]
  have c3 := eq_true c3
  refine ww1 (cj @Tryz.f123.eq_1 <| cj a1 <| cj h0 <| cj hl0 <| cj hr <| cj w3 <| cj h1 <| cj n4 <| cj n5 <| cj w4 <| cj w5 c3) ?_
  refine drop_bs (i := 1) a ubs szb (by exact wv0) (by exact wv0) hl0 fun w L hw _ _ => ?_
  refine ww1 @Tryz.f123.eq_1 ?_
  refine callF_exact (xrfx_spec hS hw (by rw [hd]; omega) 8 (by omega)) ?_
  rw [hd]
  by_cases h5 : l.length - 1 < 8
  ·rw [if_pos h5]; simp +contextual (disch := first | exact dd | fail) only [wpy, fW, Int.reduceLE, Int.reduceLT, Nat.reduceLeDiff, UInt8.reduceToNat, ↓reduceIte, Nat.reduceEqDiff, Nat.reduceAdd, reduceCtorEq, Int.reduceToNat, Tryz.f123, h5, n40]; rfl
  ·rw [if_neg h5]; simp +contextual (disch := first | exact dd | fail) only [wpy, fW, Int.reduceLE, Int.reduceLT, Nat.reduceLeDiff, UInt8.reduceToNat, ↓reduceIte, Nat.reduceEqDiff, Nat.reduceAdd, reduceCtorEq, Int.reduceToNat, Tryz.f123, h5]; rfl
 by_cases c1 : byI l 0 = 252
 ·rw [key 2 (by unfold iiS; rw [if_pos c1])]
  have w6 : byI l 0 - 250 = ((2 : Nat) : Int) := by omega
  refine ww1 (cj @Tryz.f123.eq_1 <| cj a1 <| cj h0 <| cj hl0 <| cj hr <| cj w3 <| cj h1 <| cj n4 <| cj n5 <| cj w4 <| cj w5 <| cj c3 w6) ?_
  refine drop_bs (i := 1) a ubs szb (by exact wv0) (by exact wv0) hl0 fun w L hw _ _ => ?_
  refine ww1 @Tryz.f123.eq_1 ?_
  refine callF_exact (xrfx_spec hS hw (by rw [hd]; omega) 2 (by omega)) ?_
  rw [hd]
  by_cases h5 : l.length - 1 < 2
  ·rw [if_pos h5]; simp +contextual (disch := first | exact dd | fail) only [wpy, fW, Int.reduceLE, Int.reduceLT, Nat.reduceLeDiff, UInt8.reduceToNat, ↓reduceIte, Nat.reduceEqDiff, Nat.reduceAdd, reduceCtorEq, Int.reduceToNat, Tryz.f123, h5, n40]; rfl
  ·rw [if_neg h5]; simp +contextual (disch := first | exact dd | fail) only [wpy, fW, Int.reduceLE, Int.reduceLT, Nat.reduceLeDiff, UInt8.reduceToNat, ↓reduceIte, Nat.reduceEqDiff, Nat.reduceAdd, reduceCtorEq, Int.reduceToNat, Tryz.f123, h5]; rfl
 have c2 : byI l 0 = 253 := by omega
 rw [key 3 (by unfold iiS; rw [if_neg c1, if_pos c2])]
 have w6 : byI l 0 - 250 = ((3 : Nat) : Int) := by omega
 refine ww1 (cj @Tryz.f123.eq_1 <| cj a1 <| cj h0 <| cj hl0 <| cj hr <| cj w3 <| cj h1 <| cj n4 <| cj n5 <| cj w4 <| cj w5 <| cj c3 w6) ?_
 refine drop_bs (i := 1) a ubs szb (by exact wv0) (by exact wv0) hl0 fun w L hw _ _ => ?_
 refine ww0 ?_
 refine callF_exact (xrfx_spec hS hw (by rw [hd]; omega) 3 (by omega)) ?_
 rw [hd]
 by_cases h5 : l.length - 1 < 3
 ·rw [if_pos h5]; simp +contextual (disch := first | exact dd | fail) only [wpy, fW, Int.reduceLE, Int.reduceLT, Nat.reduceLeDiff, UInt8.reduceToNat, ↓reduceIte, Nat.reduceEqDiff, Nat.reduceAdd, reduceCtorEq, Int.reduceToNat, h5, n40]; rfl
 ·rw [if_neg h5]; simp +contextual (disch := first | exact dd | fail) only [wpy, fW, Int.reduceLE, Int.reduceLT, Nat.reduceLeDiff, UInt8.reduceToNat, ↓reduceIte, Nat.reduceEqDiff, Nat.reduceAdd, reduceCtorEq, Int.reduceToNat, h5]; rfl
theorem xrtx_spec {v : V} {l : List Nat} {h : H} (a : BS 5 h v l) (hl : l.length < 2 ^ 62) : Exact S.cfg 151 [v] h (.tuple [.str (txF l).1, .int .i64 ((txF l).2.1 : Nat), .int .i64 (txF l).2.2]) := by
 refine into Tryz.f151 _ Tryz.func151 (hS.ownF _ (by decide)) rfl rfl (by kernel_rfl) (by kernel_rfl) ?_
 have a1 := a.len 5
 have hi := iiF_ok a.1
 refine ww1 @Tryz.f151.eq_1 ?_
 refine callF_exact (xrin_spec hS a hl) ?_
 by_cases h0 : (iiF l).2.2 ≠ 0
 ·have e : txF l = ([], 0, (iiF l).2.2) := by unfold txF; rw [if_pos h0]
  have h0' : ¬ (iiF l).2.2 = 0 := h0
  rw [e]
  refine ww1 h0' ?_
  rfl
 have h0' : (iiF l).2.2 = 0 := Classical.not_not.1 h0
 obtain ⟨i1, i2, i3, i4, _⟩ := hi
 have i4 := i4 h0'
 have s1 : IntKind.i64.wrap ((l.length : Int) - ((iiF l).2.1 : Nat)) = ((l.length - (iiF l).2.1 : Nat) : Int) := by rw [i64_in _ (by omega)]; omega
 have s2 : IntKind.u64.wrap ((l.length - (iiF l).2.1 : Nat) : Int) = ((l.length - (iiF l).2.1 : Nat) : Int) := u64_in _ (by omega)
 by_cases h1 : ((l.length - (iiF l).2.1 : Nat) : Int) < (iiF l).1
 ·have e : txF l = ([], 0, 4) := by unfold txF; rw [if_neg h0, if_pos h1]
  rw [e]
  refine ww1 (cj h0' <| cj a1 <| cj s1 <| cj s2 h1) ?_
  rfl
 have e : txF l = ((l.take ((iiF l).2.1 + (iiF l).1.toNat)).drop (iiF l).2.1, (iiF l).2.1 + (iiF l).1.toNat, 0) := by unfold txF; rw [if_neg h0, if_neg h1]
 rw [e]
 have s3 : IntKind.i64.wrap (iiF l).1 = (iiF l).1 := i64_in _ (by omega)
 have s4 : IntKind.i64.wrap (((iiF l).2.1 : Int) + (iiF l).1) = (((iiF l).2.1 + (iiF l).1.toNat : Nat) : Int) := by rw [i64_in _ (by omega)]; omega
 refine ww1 (cj h0' <| cj a1 <| cj s1 <| cj s2 <| cj h1 <| cj s3 s4) ?_
 refine mid_bs (i := (iiF l).2.1) (j := (iiF l).2.1 + (iiF l).1.toNat) a ubs szb (by exact wv0) (by exact wv0) (by exact wv0) (by omega) (by omega) fun w L hw _ _ => ?_
 obtain ⟨L2, _, hc⟩ := hw.str
 exact wv1 (cj hc <| cj s3 s4)
theorem mk_bytes0 {Ok : Nat → Prop} {env : Env} {h : H} {K : V → H → Fp → Prop} {x : Operand} {n : Nat} (hn : n ≤ 1000) (hx : evalE env x = .int .i64 n) (hK : K (.slice h.nx 0 n n) (h.push (.cells (bytesV (List.replicate n 0)) 5 false)) (.lg [.wrd h.nx])) : opW S.cfg Ok (.makeSlice 25 x x) env h K := by
 rw [opW_makeSlice, hx]
 obtain ⟨z, h0, h1, h2, h3, h4, h5⟩ := apI_inv (P := Tryz.prog) ap25
 have hz : zeroT Tryz.prog 5 = some (.int .u8 0) := by kernel_rfl
 have er : ∀ n, rep [V.int .u8 0] n = bytesV (List.replicate n 0) := fun n => by
  induction n with
  | zero => rfl
  | succ n ih => unfold rep; rw [ih]; rfl
 have e : opMakeSlice S.cfg.P 25 (.int .i64 (n : Nat)) (.int .i64 (n : Nat)) = (Lx.bnd (Lx.alloc (.cells (bytesV (List.replicate n 0)) 5 false)) fun k => Lx.ret (.slice k 0 n n)) := by
  show opMakeSlice Tryz.prog 25 (.int .i64 (.ofNat n)) (.int .i64 (.ofNat n)) = _
  unfold opMakeSlice
  rw [h0]
  simp only [h1, hz, h3]
  have hr : roomy n 1 = true := by
   unfold roomy
   simp only [Bool.and_eq_true]
   exact ⟨ble_iff.2 (by omega), rfl⟩
  rw [← er]
  simp only [ble_iff.2 (Nat.le_refl n), hr, Bool.true_and]
  rfl
 rw [e, goL_alloc, goL_ret]
 refine ⟨?_, hK⟩
 rw [LogOk_cons_wrd]
 exact ⟨.inl (Nat.le_refl _), LogOk_nil⟩
omit hS in
theorem BS.zeros0 {h : H} {n : Nat} (k : Nat) (hk : k = h.nx) : BS 5 (h.push (.cells (bytesV (List.replicate n 0)) 5 false)) (.slice k 0 n n) (List.replicate n 0) := by
 have hl : (List.replicate n (0 : Nat)).length = n := List.length_replicate
 refine ⟨fun x hx => by rw [(List.mem_replicate.1 hx).2]; decide, .inr ⟨k, 0, n, by rw [hl], by rw [hk]; exact Nat.lt_succ_self _, by rw [hl]; exact Nat.le_refl _, ?_, fun kc e' fl q hf => ?_⟩⟩
 ·rw [push_eq hk, hl, rdC_all (by rw [bytesV_length, hl])]
 ·rw [push_eq hk] at q; cases q; cases hf
theorem fbytes_spec {n0 r : Nat} {R : Rd} {h : H} (a : RdS 5 142 n0 r R h) (hl : R.bs.length < 2 ^ 28) (n : Nat) (hn : n ≤ 1000) : callW S.cfg (· = r) 132 [.ptr r 0, .int .i64 n] h fun v h' => BS 5 h' v (R.take n) ∧ RdR 142 n0 r (R.fix n).2 h h' := by
 refine into Tryz.f132 _ Tryz.func132 (hS.ownF _ (by decide)) rfl rfl (by kernel_rfl) (by kernel_rfl) ?_
 have a' := a
 obtain ⟨⟨v, g, hb, ho⟩, hlt⟩ := a
 have a1 := hb.len 5
 by_cases he : R.e ≠ 0
 ·rw [Rd.fix_err n he]
  have ht : R.take n = List.replicate n 0 := by unfold Rd.take; rw [Rd.fix_err n he, if_pos he]
  have he' : ¬ R.e = 0 := he
  rw [ht]
  refine ww1 (cj @Tryz.f132.eq_1 <| cj g <| cj he' a1) ?_
  refine mk_bytes0 hS (n := n) (by omega) (by exact wv0) ?_
  refine ww1 @Tryz.f132.eq_1 ?_
  exact ⟨BS.zeros0 _ rfl, a'.ext ((Ext.refl h).push _), But.of_ext ((Ext.refl h).push _)⟩
 have he' : R.e = 0 := Classical.not_not.1 he
 by_cases h1 : R.bs.length < n
 ·have e1 : R.fix n = (0, ⟨R.bs, 4⟩) := by unfold Rd.fix; rw [if_neg he, if_pos h1]
  have ht : R.take n = List.replicate n 0 := by unfold Rd.take; rw [e1, if_pos (show (4 : Int) ≠ 0 by decide)]
  rw [e1, ht]
  refine ww1 (cj @Tryz.f132.eq_1 <| cj g <| cj he' <| cj a1 <| cj h1 n40) ?_
  refine mk_bytes0 hS (n := n) (by omega) (by exact wv0) ?_
  refine ww1 @Tryz.f132.eq_1 ?_
  have a2 : RdS 5 142 n0 r ⟨R.bs, 4⟩ (h.put r (.cells [v, .int .i64 4] 142 false)) := RdS.put (R := ⟨R.bs, 4⟩) hb ho hlt
  exact ⟨BS.zeros0 _ rfl, a2.ext ((Ext.refl _).push _), ((But.refl r h).put _).trans (But.of_ext ((Ext.refl _).push _))⟩
 have e1 : R.fix n = (rdX R.bs n, ⟨R.bs.drop n, 0⟩) := by unfold Rd.fix; rw [if_neg he, if_neg h1]
 have ht : R.take n = R.bs.take n := by unfold Rd.take; rw [e1, if_neg (by simp)]
 rw [e1, ht]
 refine ww1 (cj @Tryz.f132.eq_1 <| cj g <| cj he' <| cj a1 h1) ?_
 generalize hhA : h.push (Ob.cells [] 5 false) = hA
 have hxA : Ext h hA := by rw [← hhA]; exact (Ext.refl h).push _
 have hgA : hA.get h.nx = some (.cells [] 5 false) := by rw [← hhA]; exact push_eq rfl
 have hnA : hA.nx = h.nx + 1 := by rw [← hhA]; rfl
 clear hhA
 have gA : hA.get r = some (.cells [v, .int .i64 R.e] 142 false) := by rw [hxA.2 r hlt.2]; exact g
 refine take_bs (j := n) (hb.ext hxA) ubs szb (by exact wv0) (by exact wv0) (by omega) fun w1 L1 hw1 _ _ => ?_
 refine ww0 ?_
 refine append_lst (n0 := h.nx) (sv := .slice h.nx 0 0 0) (xv := w1) (cells := []) (new := bytesV (R.bs.take n)) ?_ ?_ ap25 ⟨.slice 5, by kernel_rfl, rfl⟩ (.inr ⟨rfl, h.nx, Nat.le_refl _, by omega, rfl, hgA⟩) hw1.src (isCell_bytes _) ?_ (by decide) (fun k hk => by rw [fresh_def]; exact .inl hk) (by omega) ?_
 ·exact wv0
 ·exact wv0
 ·rw [bytesV_length, List.length_take]; simp only [List.length_nil]; omega
 intro w h2 L hl2 hn2 hk2 hf2 hL2
 have hx2 : Ext h h2 := ⟨by omega, fun k hk => by rw [hf2 k hk, hxA.2 k hk]⟩
 have g2 : h2.get r = some (.cells [v, .int .i64 R.e] 142 false) := by rw [hx2.2 r hlt.2]; exact g
 have hlt2 : n0 ≤ r ∧ r < h2.nx := ⟨hlt.1, Nat.lt_of_lt_of_le hlt.2 hx2.1⟩
 refine ww1 g2 ?_
 refine drop_bs (i := n) (hb.ext hx2) ubs szb (by exact wv0) (by exact wv0) (by omega) fun w3 L3 hw3 ho3 _ => ?_
 obtain ⟨d1, d2⟩ := hw3.cell
 refine ww1 (cj g2 <| cj d1 d2) ?_
 refine ⟨(BS.of_lst hw1.1 hl2).put (hl2.off r hlt.2), ?_, (But.of_ext hx2).put _⟩
 have := RdS.put (e := 5) (t := 142) (R := ⟨R.bs.drop n, R.e⟩) hw3 (fun k hk => ho3 k (ho k hk)) hlt2
 rw [he'] at this ⊢
 exact this
theorem fbyte_spec {n0 r : Nat} {R : Rd} {h : H} (a : RdS 5 142 n0 r R h) (hl : R.bs.length < 2 ^ 28) : callW S.cfg (· = r) 120 [.ptr r 0] h fun v h' => v = .int .u8 R.byt.1 ∧ RdR 142 n0 r R.byt.2 h h' := by
 refine into Tryz.f120 _ Tryz.func120 (hS.ownF _ (by decide)) rfl rfl (by kernel_rfl) (by kernel_rfl) ?_
 have hbs : ∀ x ∈ R.bs, x < 256 := a.cell.choose_spec.2.1.1
 refine ww1 @Tryz.f120.eq_1 ?_
 refine callF_of (fbytes_spec hS a hl 1 (by omega)) (fun k hk => .inr hk) ?_
 rintro w h1 ⟨hw, hr⟩
 have h0 : 0 < (R.take 1).length := by rw [Rd.take_len]; decide
 obtain ⟨b, o, m, rfl, _, _⟩ := hw.at (i := 0) h0
 obtain ⟨_, hb, hrd⟩ := hw.rd
 have hr0 := hrd 0 h0
 rw [Nat.add_zero, Rd.take_byt] at hr0
 rw [(Rd.byt_fix hbs).2] at hr
 refine ww1 (cj h0 hr0) ?_
 exact hr
theorem fwrong_spec {n0 r : Nat} {R : Rd} {h : H} (a : RdS 5 142 n0 r R h) (p : Prop) : callW S.cfg (· = r) 121 [.ptr r 0, bo p] h fun v h' => RdR 142 n0 r (R.bad p) h h' := by
 refine into Tryz.f121 _ Tryz.func121 (hS.ownF _ (by decide)) rfl rfl (by kernel_rfl) (by kernel_rfl) ?_
 have a' := a
 obtain ⟨⟨v, g, hb, ho⟩, hlt⟩ := a
 by_cases hq : R.e = 0 ∧ p
 ·have q1 := eq_true hq.1
  have q2 := hq.2
  rw [Rd.bad_yes hq]
  refine ww1 (cj @Tryz.f121.eq_1 <| cj g <| cj q1 q2) ?_
  exact ⟨RdS.put (R := ⟨R.bs, 5⟩) hb ho hlt, (But.refl r h).put _⟩
 ·rw [Rd.bad_no hq]
  by_cases q1 : R.e = 0
  ·have q2 : ¬ p := fun q => hq ⟨q1, q⟩
   have q1 := eq_true q1
   refine ww1 (cj @Tryz.f121.eq_1 <| cj g <| cj q1 q2) ?_
   exact ⟨a', But.refl r h⟩
  ·refine ww1 (cj @Tryz.f121.eq_1 <| cj g q1) ?_
   exact ⟨a', But.refl r h⟩
theorem fdone_spec {n0 r : Nat} {R : Rd} {h : H} (a : RdS 5 142 n0 r R h) : callW S.cfg (· = r) 129 [.ptr r 0] h fun v h' => v = .int .i64 (overF R).e ∧ RdR 142 n0 r (overF R) h h' := by
 refine into Tryz.f129 _ Tryz.func129 (hS.ownF _ (by decide)) rfl rfl (by kernel_rfl) (by kernel_rfl) ?_
 have a' := a
 obtain ⟨⟨v, g, hb, ho⟩, hlt⟩ := a
 have a1 := hb.len 5
 refine ww1 (cj @Tryz.f129.eq_1 <| cj g a1) ?_
 have e : R.bad (0 < R.bs.length) = overF R := by
  unfold overF Rd.over
  rw [show (0 < R.bs.length) = (R.bs ≠ []) from propext List.length_pos_iff]
 refine callF_of (fwrong_spec hS a' (0 < R.bs.length)) (fun k hk => .inr hk) ?_
 rintro w h1 hr
 rw [e] at hr
 obtain ⟨⟨v1, g1, hb1, ho1⟩, hlt1⟩ := hr.1
 refine ww1 g1 ?_
 exact hr
theorem ffixed_spec {n0 r : Nat} {R : Rd} {h : H} (a : RdS 5 142 n0 r R h) (hl : R.bs.length < 2 ^ 28) (n : Nat) (hn : 1 ≤ n ∧ n ≤ 8) : callW S.cfg (· = r) 127 [.ptr r 0, .int .i64 n] h fun v h' => v = .int .u64 (R.fix n).1 ∧ RdR 142 n0 r (R.fix n).2 h h' := by
 refine into Tryz.f127 _ Tryz.func127 (hS.ownF _ (by decide)) rfl rfl (by kernel_rfl) (by kernel_rfl) ?_
 refine ww1 @Tryz.f127.eq_1 ?_
 refine callF_of (fbytes_spec hS a hl n (by omega)) (fun k hk => .inr hk) ?_
 rintro w h1 ⟨hw, hr⟩
 refine ww0 ?_
 refine callF_exact (xrfx_spec hS hw (by rw [Rd.take_len]; omega) n hn) ?_
 rw [Rd.take_len, if_neg (Nat.lt_irrefl n), if_neg (Nat.lt_irrefl n), Rd.take_fix]
 refine ww0 ?_
 exact hr
theorem fint_spec {n0 r : Nat} {R : Rd} {h : H} (a : RdS 5 142 n0 r R h) (hl : R.bs.length < 2 ^ 28) : callW S.cfg (· = r) 148 [.ptr r 0] h fun v h' => v = .int .u64 R.cnt.1 ∧ RdR 142 n0 r R.cnt.2 h h' := by
 refine into Tryz.f148 _ Tryz.func148 (hS.ownF _ (by decide)) rfl rfl (by kernel_rfl) (by kernel_rfl) ?_
 have a' := a
 obtain ⟨⟨v, g, hb, ho⟩, hlt⟩ := a
 obtain ⟨c1, c2⟩ := hb.cell
 by_cases he : R.e ≠ 0
 ·rw [Rd.cnt_err he]
  have he' : ¬ R.e = 0 := he
  refine ww1 (cj @Tryz.f148.eq_1 <| cj g he') ?_
  exact ⟨a', But.refl r h⟩
 have he' : R.e = 0 := Classical.not_not.1 he
 have hi := iiF_ok hb.1
 refine ww1 (cj @Tryz.f148.eq_1 <| cj g he') ?_
 refine callF_exact (xrin_spec hS hb (by omega)) ?_
 refine ww1 g ?_
 have g1 : (h.put r (Ob.cells [v, .int .i64 (iiF R.bs).2.2] 142 false)).get r = some (.cells [v, .int .i64 (iiF R.bs).2.2] 142 false) := put_eq rfl
 refine drop_bs (i := (iiF R.bs).2.1) (hb.put (ho r hlt.1)) ubs szb (by exact wv0) (by exact wv0) hi.2.2.1 fun w3 L3 hw3 ho3 _ => ?_
 obtain ⟨d1, d2⟩ := hw3.cell
 refine ww1 (cj g1 <| cj d1 d2) ?_
 unfold Rd.cnt
 rw [if_neg he]
 exact ⟨rfl, RdS.put (R := ⟨R.bs.drop (iiF R.bs).2.1, (iiF R.bs).2.2⟩) hw3 (fun k hk => ho3 k (ho k hk)) hlt, ((But.refl r h).put _).put _⟩
theorem ftext_spec {n0 r : Nat} {R : Rd} {h : H} (a : RdS 5 142 n0 r R h) (hl : R.bs.length < 2 ^ 28) : callW S.cfg (· = r) 125 [.ptr r 0] h fun v h' => v = .str R.txt.1 ∧ RdR 142 n0 r R.txt.2 h h' := by
 refine into Tryz.f125 _ Tryz.func125 (hS.ownF _ (by decide)) rfl rfl (by kernel_rfl) (by kernel_rfl) ?_
 have a' := a
 obtain ⟨⟨v, g, hb, ho⟩, hlt⟩ := a
 obtain ⟨c1, c2⟩ := hb.cell
 by_cases he : R.e ≠ 0
 ·rw [Rd.txt_err he]
  have he' : ¬ R.e = 0 := he
  refine ww1 (cj @Tryz.f125.eq_1 <| cj g he') ?_
  exact ⟨a', But.refl r h⟩
 have he' : R.e = 0 := Classical.not_not.1 he
 have hi := txF_ok hb.1
 refine ww1 (cj @Tryz.f125.eq_1 <| cj g he') ?_
 refine callF_exact (xrtx_spec hS hb (by omega)) ?_
 refine ww1 g ?_
 have g1 : (h.put r (Ob.cells [v, .int .i64 (txF R.bs).2.2] 142 false)).get r = some (.cells [v, .int .i64 (txF R.bs).2.2] 142 false) := put_eq rfl
 refine drop_bs (i := (txF R.bs).2.1) (hb.put (ho r hlt.1)) ubs szb (by exact wv0) (by exact wv0) hi.1 fun w3 L3 hw3 ho3 _ => ?_
 obtain ⟨d1, d2⟩ := hw3.cell
 refine ww1 (cj g1 <| cj d1 d2) ?_
 unfold Rd.txt
 rw [if_neg he]
 exact ⟨rfl, RdS.put (R := ⟨R.bs.drop (txF R.bs).2.1, (txF R.bs).2.2⟩) hw3 (fun k hk => ho3 k (ho k hk)) hlt, ((But.refl r h).put _).put _⟩
theorem frest_spec {n0 r : Nat} {R : Rd} {h : H} (a : RdS 5 142 n0 r R h) (hl : R.bs.length < 2 ^ 28) : callW S.cfg (· = r) 122 [.ptr r 0] h fun w h' => BS 5 h' w (if R.e ≠ 0 then [] else R.bs) ∧ RdR 142 n0 r (if R.e ≠ 0 then R else ⟨[], R.e⟩) h h' := by
 refine into Tryz.f122 _ Tryz.func122 (hS.ownF _ (by decide)) rfl rfl (by kernel_rfl) (by kernel_rfl) ?_
 have a' := a
 obtain ⟨⟨v, g, hb, ho⟩, hlt⟩ := a
 by_cases he : R.e ≠ 0
 ·rw [if_pos he, if_pos he]
  have he' : ¬ R.e = 0 := he
  refine ww1 (cj @Tryz.f122.eq_1 <| cj g he') ?_
  exact ⟨BS.nil _ _, a', But.refl r h⟩
 rw [if_neg he, if_neg he]
 have he' : R.e = 0 := Classical.not_not.1 he
 refine ww1 (cj @Tryz.f122.eq_1 <| cj g he') ?_
 generalize hhA : h.push (Ob.cells [] 5 false) = hA
 have hxA : Ext h hA := by rw [← hhA]; exact (Ext.refl h).push _
 have hgA : hA.get h.nx = some (.cells [] 5 false) := by rw [← hhA]; exact push_eq rfl
 have hnA : hA.nx = h.nx + 1 := by rw [← hhA]; rfl
 clear hhA
 have gA : hA.get r = some (.cells [v, .int .i64 R.e] 142 false) := by rw [hxA.2 r hlt.2]; exact g
 refine append_lst (n0 := h.nx) (sv := .slice h.nx 0 0 0) (xv := v) (cells := []) (new := bytesV R.bs) ?_ ?_ ap25 ⟨.slice 5, by kernel_rfl, rfl⟩ (.inr ⟨rfl, h.nx, Nat.le_refl _, by omega, rfl, hgA⟩) (hb.ext hxA).src (isCell_bytes _) ?_ (by decide) (fun k hk => by rw [fresh_def]; exact .inl hk) (by omega) ?_
 ·exact wv0
 ·exact wv0
 ·rw [bytesV_length]; simp only [List.length_nil]; omega
 intro w h2 L hl2 hn2 hk2 hf2 hL2
 have hx2 : Ext h h2 := ⟨by omega, fun k hk => by rw [hf2 k hk, hxA.2 k hk]⟩
 have g2 : h2.get r = some (.cells [v, .int .i64 R.e] 142 false) := by rw [hx2.2 r hlt.2]; exact g
 have hlt2 : n0 ≤ r ∧ r < h2.nx := ⟨hlt.1, Nat.lt_of_lt_of_le hlt.2 hx2.1⟩
 refine ww1 g2 ?_
 refine ⟨(BS.of_lst hb.1 hl2).put (hl2.off r hlt.2), ?_, (But.of_ext hx2).put _⟩
 have := RdS.put (e := 5) (t := 142) (R := ⟨[], R.e⟩) (BS.nil _ _) (fun _ _ _ _ _ q => by cases q) hlt2
 rw [he'] at this ⊢
 exact this
end
noncomputable section
structure FS (h : H) (o : Nat) (R : Rd) (cs : List V) (h' : H) : Prop where
 rd : RdS 5 142 h.nx (h.nx + 1) R h'
 ext : Ext h h'
 z : h'.get h.nx = some (.cells oz 45 false)
 ob : h'.get o = some (.cells cs 45 false)
 lt : h.nx + 1 < o ∧ o < h'.nx
theorem FS.call {h : H} {o : Nat} {R R1 : Rd} {cs : List V} {h1 h2 : H} (a : FS h o R cs h1) (b : RdR 142 h.nx (h.nx + 1) R1 h1 h2) : FS h o R1 cs h2 := by
 have l1 := a.lt
 have n2 := b.2.1
 exact ⟨b.1, But.ext a.ext b.2 (by omega), by rw [b.2.2 _ (by omega) (by omega)]; exact a.z, by rw [b.2.2 _ (by omega) (by omega)]; exact a.ob, by omega, by omega⟩
theorem FS.put {h : H} {o : Nat} {R : Rd} {cs : List V} {h1 : H} (a : FS h o R cs h1) (cs' : List V) : FS h o R cs' (h1.put o (.cells cs' 45 false)) := by
 have l1 := a.lt
 exact ⟨a.rd.keep (Nat.le_refl _) (put_ne (by omega)) fun k hk => put_ne (by omega), a.ext.put (by omega) _, by rw [put_ne (by omega)]; exact a.z, put_eq rfl, l1⟩
theorem FS.ext2 {h : H} {o : Nat} {R : Rd} {cs : List V} {h1 h2 : H} (a : FS h o R cs h1) (hx : Ext h1 h2) : FS h o R cs h2 := by
 have l1 := a.lt
 exact ⟨a.rd.ext hx, a.ext.trans hx, by rw [hx.2 _ (by omega)]; exact a.z, by rw [hx.2 _ (by omega)]; exact a.ob, l1.1, Nat.lt_of_lt_of_le l1.2 hx.1⟩
variable {S : Set0} (hS : StdF S)
include hS
theorem xhas_spec (c x : Int) (h : H) : Exact S.cfg 116 [.int .u32 c, .int .u32 x] h (bo (hasP c x)) := by
 refine into Tryz.f116 _ Tryz.func116 (hS.ownF _ (by decide)) rfl rfl (by kernel_rfl) (by kernel_rfl) ?_
 refine ww1 @Tryz.f116.eq_1 ?_
 rfl
theorem xtrack_spec (c s : Int) (h : H) : Exact S.cfg 149 [.int .u32 c, .int .u16 s] h (bo (trkP c s)) := by
 refine into Tryz.f149 _ Tryz.func149 (hS.ownF _ (by decide)) rfl rfl (by kernel_rfl) (by kernel_rfl) ?_
 refine ww1 @Tryz.f149.eq_1 ?_
 refine callF_exact (xhas_spec hS c 8388608 _) ?_
 by_cases hq : sessP c
 ·have hq1 : hasP c 8388608 := hq
  refine ww1 hq1 ?_
  exact bo_eq ⟨fun q => ⟨hq, q⟩, fun q => q.2⟩
 ·have hq1 : ¬ hasP c 8388608 := hq
  refine ww1 hq1 ?_
  exact bo_eq ⟨fun q => q.elim, fun q => hq q.1⟩
theorem xreadok_spec {v : V} {l : List Nat} {h : H} (a : BS 5 h v l) (hl : l.length < 2 ^ 28) (c : Int) : Pure S.cfg 119 [v, .int .u32 c] h fun w h' => ∃ y, w = .tuple [.agg ((okV l c).cells y), .int .i64 (okeF l c)] ∧ BS 5 h' y (okV l c).k ∧ ∀ k, k < h.nx → Off y k := by
 refine into Tryz.f119 _ Tryz.func119 (hS.ownF _ (by decide)) rfl rfl (by kernel_rfl) (by kernel_rfl) ?_
 obtain ⟨c1, c2⟩ := a.cell
 refine ww1 (cj @Tryz.f119.eq_1 <| cj c1 c2) ?_
 generalize hhA : H.push _ (Ob.cells [v, V.int IntKind.i64 0] 142 false) = hA
 have hxA : Ext h hA := by rw [← hhA]; exact ((Ext.refl h).push _).push _
 have hnA : hA.nx = h.nx + 2 := by rw [← hhA]; rfl
 have gR : hA.get (h.nx + 1) = some (.cells [v, .int .i64 0] 142 false) := by rw [← hhA]; exact push_eq rfl
 have gZ : hA.get h.nx = some (.cells oz 45 false) := by rw [← hhA, push_ne (by simp only [push_nx]; omega)]; exact push_eq rfl
 clear hhA
 have a2 : RdS 5 142 h.nx (h.nx + 1) ⟨l, 0⟩ hA := ⟨⟨v, gR, a.ext hxA, fun k hk => a.off hk⟩, by omega, by omega⟩
 have okf : ∀ k, k = h.nx + 1 → fresh h.nx nil1 k := fun k hk => by rw [fresh_def]; exact .inl (by omega)
 have l0 : (Rd.mk l 0).byt.2.bs.length ≤ l.length := by rw [← (Rd.byt_fix (R := ⟨l, 0⟩) a.1).2]; exact Rd.fix_len _ _
 refine callF_of (fbyte_spec hS a2 (by show l.length < _; omega)) okf ?_
 rintro _ h1 ⟨rfl, r1⟩
 refine ww0 ?_
 have hR2 : (Rd.mk l 0).byt.2.bad (¬ (Rd.mk l 0).byt.1 = 0 ∧ ¬ (Rd.mk l 0).byt.1 = 254) = (Rd.mk l 0).byt.2.bad ((Rd.mk l 0).byt.1 ≠ 0 ∧ (Rd.mk l 0).byt.1 ≠ 254) := rfl
 refine callF_of (fwrong_spec hS r1.1 _) okf ?_
 rw [hR2]
 generalize hgR2 : (Rd.mk l 0).byt.2.bad ((Rd.mk l 0).byt.1 ≠ 0 ∧ (Rd.mk l 0).byt.1 ≠ 254) = R2
 have l2 : R2.bs.length ≤ l.length := by rw [← hgR2, Rd.bad_bs]; exact l0
 rintro w1 h2 r2
 refine ww0 ?_
 refine callF_of (fint_spec hS r2.1 (by omega)) okf ?_
 have l3 := Rd.cnt_len R2
 rintro _ h3 ⟨rfl, r3⟩
 have n1 := r1.2.1
 have n2 := r2.2.1
 have n3 := r3.2.1
 have b3 : But (h.nx + 1) hA h3 := (r1.2.trans r2.2).trans r3.2
 refine ww0 ?_
 refine ⟨.inr (by omega), ?_⟩
 generalize hhC : H.put _ _ _ = hC
 have hxC : Ext h3 hC := by rw [← hhC]; exact Ext.new _ _ _
 have hnC : hC.nx = h3.nx + 1 := by rw [← hhC]; rfl
 have fC : FS h h3.nx R2.cnt.2 [.int .u64 R2.cnt.1, .int .u64 0, .int .u16 0, .int .u16 0, .str [], .nilslice] hC := ⟨r3.1.ext hxC, But.ext hxA (b3.trans (But.of_ext hxC)) (by omega), by rw [hxC.2 _ (by omega), b3.2 _ (by omega) (by omega)]; exact gZ, by rw [← hhC]; exact put_eq rfl, by omega, by omega⟩
 clear hhC
 refine callF_of (fint_spec hS fC.rd (by omega)) okf ?_
 have l4 := Rd.cnt_len R2.cnt.2
 rintro _ h4 ⟨rfl, r4⟩
 have f4 := fC.call r4
 have g4 := f4.ob
 have n4 := f4.lt
 refine ww1 g4 ?_
 refine ⟨.inr (by omega), callF_of (ffixed_spec hS (f4.put _).rd (by omega) 2 (by omega)) okf ?_⟩
 have l5 := Rd.fix_len R2.cnt.2.cnt.2 2
 rintro _ h5 ⟨rfl, r5⟩
 have f5 := (f4.put _).call r5
 have g5 := f5.ob
 have n5 := f5.lt
 refine ww1 g5 ?_
 refine ⟨.inr (by omega), callF_of (ffixed_spec hS (f5.put _).rd (by omega) 2 (by omega)) okf ?_⟩
 have l6 := Rd.fix_len (R2.cnt.2.cnt.2.fix 2).2 2
 rintro _ h6 ⟨rfl, r6⟩
 have f6 := (f5.put _).call r6
 have g6 := f6.ob
 have n6 := f6.lt
 have hS5 : okS l = (IntKind.u16.wrap (R2.cnt.2.cnt.2.fix 2).1, ((R2.cnt.2.cnt.2.fix 2).2.fix 2).2) := by rw [← hgR2]; rfl
 have hRa : okeF l c = (okR l (sessP c) (trkP c (IntKind.u16.wrap (R2.cnt.2.cnt.2.fix 2).1))).over.e := by unfold okeF okE; rw [hS5]
 have hRb : ∀ p q : Prop, okR l p q = @ite _ (((R2.cnt.2.cnt.2.fix 2).2.fix 2).2.e ≠ 0) (Classical.propDecidable _) ((R2.cnt.2.cnt.2.fix 2).2.fix 2).2 (@ite _ p (Classical.propDecidable _) (@ite _ q (Classical.propDecidable _) ((R2.cnt.2.cnt.2.fix 2).2.fix 2).2.txt.2.txt.2 (@ite _ (((R2.cnt.2.cnt.2.fix 2).2.fix 2).2.bs ≠ []) (Classical.propDecidable _) ((R2.cnt.2.cnt.2.fix 2).2.fix 2).2.txt.2 ((R2.cnt.2.cnt.2.fix 2).2.fix 2).2)) ⟨[], ((R2.cnt.2.cnt.2.fix 2).2.fix 2).2.e⟩) := fun p q => by unfold okR; rw [hS5]
 have hX : okX l = (R2.cnt.1, R2.cnt.2.cnt.1, IntKind.u16.wrap ((R2.cnt.2.cnt.2.fix 2).2.fix 2).1) := by rw [← hgR2]; rfl
 have hV : okV l c = @ite _ ((okR l (sessP c) (trkP c (IntKind.u16.wrap (R2.cnt.2.cnt.2.fix 2).1))).over.e = 0) (Classical.propDecidable _) ⟨R2.cnt.1, R2.cnt.2.cnt.1, IntKind.u16.wrap (R2.cnt.2.cnt.2.fix 2).1, IntKind.u16.wrap ((R2.cnt.2.cnt.2.fix 2).2.fix 2).1, (okI ((R2.cnt.2.cnt.2.fix 2).2.fix 2).2 (sessP c) (trkP c (IntKind.u16.wrap (R2.cnt.2.cnt.2.fix 2).1))).1, (okI ((R2.cnt.2.cnt.2.fix 2).2.fix 2).2 (sessP c) (trkP c (IntKind.u16.wrap (R2.cnt.2.cnt.2.fix 2).1))).2⟩ OkV.z := by unfold okV; rw [hX, hRa, hS5]
 rw [hRa, hV]
 clear hRa hV hX
 have hh3 : h3.nx < h6.nx := n6.2
 generalize h3.nx = o at *
 generalize ((R2.cnt.2.cnt.2.fix 2).2.fix 2).2 = R6 at *
 generalize (IntKind.u16.wrap (R2.cnt.2.cnt.2.fix 2).1) = st at *
 have l7 : R6.bs.length < 2 ^ 28 := by omega
 have hR7 : sessP c → trkP c st → okR l (sessP c) (trkP c st) = R6.txt.2.txt.2 := fun p q => by
  rw [hRb, if_pos p, if_pos q]
  by_cases he : R6.e ≠ 0
  ·rw [if_pos he, Rd.txt_err he, Rd.txt_err he]
  ·rw [if_neg he]
 have hR8 : sessP c → ¬ trkP c st → R6.bs ≠ [] → okR l (sessP c) (trkP c st) = R6.txt.2 := fun p q w => by
  rw [hRb, if_pos p, if_neg q, if_pos w]
  by_cases he : R6.e ≠ 0
  ·rw [if_pos he, Rd.txt_err he]
  ·rw [if_neg he]
 have hR9 : sessP c → ¬ trkP c st → R6.bs = [] → okR l (sessP c) (trkP c st) = R6 := fun p q w => by
  rw [hRb]
  by_cases he : R6.e ≠ 0
  ·rw [if_pos he]
  ·rw [if_neg he, if_pos p, if_neg q, if_neg (fun q => q w)]
 have hR10 : ¬ sessP c → okR l (sessP c) (trkP c st) = if R6.e ≠ 0 then R6 else ⟨[], R6.e⟩ := fun p => by
  rw [hRb, if_neg p]
  by_cases he : R6.e ≠ 0
  ·rw [if_pos he, if_pos he]
  ·rw [if_neg he, if_neg he]
 have hI1 : sessP c → trkP c st → okI R6 (sessP c) (trkP c st) = (R6.txt.1, R6.txt.2.txt.1) := fun p q => by
  unfold okI
  by_cases he : R6.e ≠ 0
  ·rw [if_pos he, Rd.txt_err he, Rd.txt_err he]
  ·rw [if_neg he, if_pos p, if_pos q]
 have hI2 : sessP c → ¬ trkP c st → R6.bs ≠ [] → okI R6 (sessP c) (trkP c st) = (R6.txt.1, []) := fun p q w => by
  unfold okI
  by_cases he : R6.e ≠ 0
  ·rw [if_pos he, Rd.txt_err he]
  ·rw [if_neg he, if_pos p, if_neg q, if_pos w]
 have hI3 : sessP c → ¬ trkP c st → R6.bs = [] → okI R6 (sessP c) (trkP c st) = ([], []) := fun p q w => by
  unfold okI
  by_cases he : R6.e ≠ 0
  ·rw [if_pos he]
  ·rw [if_neg he, if_pos p, if_neg q, if_neg (fun q => q w)]
 have hI4 : ¬ sessP c → okI R6 (sessP c) (trkP c st) = (if R6.e ≠ 0 then [] else R6.bs, []) := fun p => by
  unfold okI
  by_cases he : R6.e ≠ 0
  ·rw [if_pos he, if_pos he]
  ·rw [if_neg he, if_neg p, if_neg he]
 clear hRb
 refine wr1 g6 ?_
 refine ⟨.inr (by omega), callF_exact (xhas_spec hS c 8388608 _) ?_⟩
 have f7 := f6.put [V.int IntKind.u64 R2.cnt.1, V.int IntKind.u64 R2.cnt.2.cnt.1, V.int IntKind.u16 st, V.int IntKind.u16 (IntKind.u16.wrap ((R2.cnt.2.cnt.2.fix 2).2.fix 2).1), V.str [], V.nilslice]
 revert f7
 generalize H.put h6 _ _ = h7
 intro f7
 obtain ⟨⟨v7, g7, hb7, ho7⟩, hlt7⟩ := f7.rd
 have g7o := f7.ob
 refine wr0 ?_
 refine run_cut (fun env' h' => env' 4 = .ptr h.nx 0 ∧ env' 6 = .ptr (h.nx + 1) 0 ∧ env' 8 = .ptr o 0 ∧ ∃ y, FS h o (okR l (sessP c) (trkP c st)) [.int .u64 R2.cnt.1, .int .u64 R2.cnt.2.cnt.1, .int .u16 st, .int .u16 (IntKind.u16.wrap ((R2.cnt.2.cnt.2.fix 2).2.fix 2).1), .str (okI R6 (sessP c) (trkP c st)).1, y] h' ∧ BS 5 h' y (okI R6 (sessP c) (trkP c st)).2 ∧ ∀ k, k ≤ h.nx + 1 → Off y k) ?_ ?_
 ·by_cases hs : sessP c
  ·have hs' : hasP c 8388608 := hs
   have hlen := hb7.len 5
   by_cases hb0 : R6.bs = []
   ·have hb1 : ¬ 0 < R6.bs.length := by rw [hb0]; decide
    refine ww1 (cj hs' <| cj g7 <| cj g7o <| cj hlen hb1) ?_
    refine callF_exact (xtrack_spec hS c st _) ?_
    by_cases ht : trkP c st
    ·rw [hR7 hs ht, hI1 hs ht]
     refine ww1 ht ?_
     refine callF_of (ftext_spec hS f7.rd (by omega)) okf ?_
     rintro _ h8 ⟨rfl, r8⟩
     have f8 := f7.call r8
     have g8 := f8.ob
     have n8 := f8.lt
     refine ww1 g8 ?_
     refine ⟨.inr (by omega), ?_⟩
     have f9 := f8.put [V.int IntKind.u64 R2.cnt.1, V.int IntKind.u64 R2.cnt.2.cnt.1, V.int IntKind.u16 st, V.int IntKind.u16 (IntKind.u16.wrap ((R2.cnt.2.cnt.2.fix 2).2.fix 2).1), V.str R6.txt.1, V.nilslice]
     revert f9
     generalize H.put h8 _ _ = h9
     intro f9
     have g9 := f9.ob
     refine callF_exact (xtrack_spec hS c st _) ?_
     refine ww1 ht ?_
     have l8 := Rd.txt_len R6
     refine callF_of (ftext_spec hS f9.rd (by omega)) okf ?_
     rintro _ hE ⟨rfl, rE⟩
     have fE := f9.call rE
     have gE := fE.ob
     have nE := fE.lt
     have qE : ¬ o = hE.nx := by omega
     refine ww1 (cj gE qE) ?_
     refine ⟨.inr (by omega), _, (fE.ext2 ((Ext.refl _).push _)).put _, ?_, fun k hk o n m q => by injection q; omega⟩
     have hbt : ∀ x ∈ R6.txt.2.txt.1, x < 256 := by
      obtain ⟨⟨v9, _, hb9, _⟩, _⟩ := f9.rd
      exact txt_bytes hb9.1
     exact ⟨hbt, .inr ⟨hE.nx, 0, _, rfl, by simp only [put_nx, push_nx]; omega, Nat.le_refl _, by rw [put_ne (by omega), push_eq rfl]; exact rdC_all (bytesV_length _), fun kc e' fl q hf => by rw [put_ne (by omega), push_eq rfl] at q; cases q; rfl⟩⟩
    ·rw [hR9 hs ht hb0, hI3 hs ht hb0]
     refine ww1 ht ?_
     exact ⟨_, f7, BS.nil _ _, fun _ _ => (fun _ _ _ q => by cases q)⟩
   ·have hb1 : 0 < R6.bs.length := List.length_pos_iff.2 hb0
    refine ww1 (cj hs' <| cj g7 <| cj g7o <| cj hlen hb1) ?_
    refine callF_of (ftext_spec hS f7.rd (by omega)) okf ?_
    rintro _ h8 ⟨rfl, r8⟩
    have f8 := f7.call r8
    have g8 := f8.ob
    have n8 := f8.lt
    refine ww1 g8 ?_
    refine ⟨.inr (by omega), ?_⟩
    have f9 := f8.put [V.int IntKind.u64 R2.cnt.1, V.int IntKind.u64 R2.cnt.2.cnt.1, V.int IntKind.u16 st, V.int IntKind.u16 (IntKind.u16.wrap ((R2.cnt.2.cnt.2.fix 2).2.fix 2).1), V.str R6.txt.1, V.nilslice]
    revert f9
    generalize H.put h8 _ _ = h9
    intro f9
    have g9 := f9.ob
    refine callF_exact (xtrack_spec hS c st _) ?_
    by_cases ht : trkP c st
    ·rw [hR7 hs ht, hI1 hs ht]
     refine ww1 ht ?_
     have l8 := Rd.txt_len R6
     refine callF_of (ftext_spec hS f9.rd (by omega)) okf ?_
     rintro _ hE ⟨rfl, rE⟩
     have fE := f9.call rE
     have gE := fE.ob
     have nE := fE.lt
     have qE : ¬ o = hE.nx := by omega
     refine ww1 (cj gE qE) ?_
     refine ⟨.inr (by omega), _, (fE.ext2 ((Ext.refl _).push _)).put _, ?_, fun k hk o n m q => by injection q; omega⟩
     have hbt : ∀ x ∈ R6.txt.2.txt.1, x < 256 := by
      obtain ⟨⟨v9, _, hb9, _⟩, _⟩ := f9.rd
      exact txt_bytes hb9.1
     exact ⟨hbt, .inr ⟨hE.nx, 0, _, rfl, by simp only [put_nx, push_nx]; omega, Nat.le_refl _, by rw [put_ne (by omega), push_eq rfl]; exact rdC_all (bytesV_length _), fun kc e' fl q hf => by rw [put_ne (by omega), push_eq rfl] at q; cases q; rfl⟩⟩
    ·rw [hR8 hs ht hb0, hI2 hs ht hb0]
     refine ww1 ht ?_
     exact ⟨_, f9, BS.nil _ _, fun _ _ => (fun _ _ _ q => by cases q)⟩
  ·rw [hR10 hs, hI4 hs]
   have hs' : ¬ hasP c 8388608 := hs
   refine ww1 hs' ?_
   refine callF_of (frest_spec hS f7.rd l7) okf ?_
   rintro w8 h8 ⟨hw8, r8⟩
   have f8 := f7.call r8
   have g8 := f8.ob
   have n8 := f8.lt
   obtain ⟨L8, _, hc8⟩ := hw8.str
   refine ww1 (cj hc8 g8) ?_
   exact ⟨.inr (by omega), _, f8.put _, BS.nil _ _, fun _ _ => (fun _ _ _ q => by cases q)⟩
 ·rintro env' h8 ⟨e4, e6, e8, y, f8, hy, hyo⟩
  refine ww1 (cj e4 <| cj e6 e8) ?_
  refine callF_of (fdone_spec hS f8.rd) okf ?_
  rintro _ h9 ⟨rfl, r9⟩
  have f9 := f8.call r9
  have gZ9 := f9.z
  have gO9 := f9.ob
  have n9 := f9.lt
  obtain ⟨⟨v9, g9, _, _⟩, hlt9⟩ := f9.rd
  unfold oz at gZ9
  by_cases he : (overF (okR l (sessP c) (trkP c st))).e = 0
  ·have he' := eq_true he
   have he2 : (okR l (sessP c) (trkP c st)).over.e = 0 := he
   have yc := hy.cell.2
   refine ww1 (cj e4 <| cj e6 <| cj e8 <| cj gZ9 <| cj gO9 <| cj he' <| cj yc he2) ?_
   exact ⟨f9.ext.put (Nat.le_refl _) _, y, rfl, BS.put (hy.keep r9.2.1 fun k hk ⟨o, n, m, q⟩ => r9.2.2 k hk fun e => hyo k (by omega) o n m q) (hyo _ (by omega)), fun k hk => hyo k (by omega)⟩
  ·rw [if_neg (show ¬ (okR l (sessP c) (trkP c st)).over.e = 0 from he)]
   refine ww1 (cj e4 <| cj e6 <| cj e8 <| cj gZ9 <| cj gO9 <| cj g9 he) ?_
   refine draw_by [(4, 5)] (by kernel_rfl) ?_
   refine ww1 (cj e4 <| cj e6 <| cj e8 <| cj gZ9 <| cj gO9 <| cj g9 he) ?_
   refine ⟨fun q hq => ?_, f9.ext.put (Nat.le_refl _) _, _, rfl, BS.nil _ _, fun _ _ _ _ _ q => by cases q⟩
   rw [List.mem_singleton.1 hq]
   exact pair_one rfl rfl (apart_blk fun x hx y hy => by
    rw [List.mem_singleton.1 (show x ∈ [_] from hx), List.mem_singleton.1 (show y ∈ [_] from hy)]
    show ¬ h.nx + 1 = h.nx
    omega)
end
end Go.Proofs.YtinbhlejofgomaaGreat
