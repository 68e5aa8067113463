/-
  Several texts of one walk, joined.
-/
import Derived.Test.YtinbhlejofgomaaProg
import Derived.Test.YtinbhlejofgomaaWxZ
import Derived.Test.YtinbhlejofgomaaLxZ
set_option linter.defProp false
set_option linter.unusedSimpArgs false
set_option linter.unusedVariables false
namespace Go.Proofs.Ytinbhlejofgomaa
open Go.Proofs Go.Lx Go.Wx
noncomputable section
theorem bu29_0_1 (v0_0 v1_0 : V) : buildV Try.prog 29 [(0, [v0_0]), (1, [v1_0])] = some (.agg [v0_0, v1_0, .int .u32 0, .int .u16 0, .int .u8 0, .int .u32 0, .int .u16 0, .nilslice]) := by kernel_rfl
theorem ze29 : zeroL Try.prog 29 = some [.int .u8 0, .str [], .int .u32 0, .int .u16 0, .int .u8 0, .int .u32 0, .int .u16 0, .nilslice] := by kernel_rfl
theorem sz29 : szT Try.prog 29 = some 8 := by kernel_rfl
theorem bs27_5 (v0_0 v1_0 v2_0 v3_0 v4_0 : V) : buildSliceL Try.prog 27 5 [(0, [v0_0]), (1, [v1_0]), (2, [v2_0]), (3, [v3_0]), (4, [v4_0])] = some ([v0_0, v1_0, v2_0, v3_0, v4_0], 5) := by kernel_rfl
theorem ty29 : tyR Try.prog 29 = some (8, true) := by kernel_rfl
theorem bs27_1 (v0_0 : V) : buildSliceL Try.prog 27 1 [(0, [v0_0])] = some ([v0_0], 5) := by kernel_rfl
theorem bs27_2 (v0_0 v1_0 : V) : buildSliceL Try.prog 27 2 [(0, [v0_0]), (1, [v1_0])] = some ([v0_0, v1_0], 5) := by kernel_rfl
theorem bs33_5 (v0_0 v1_0 v2_0 v3_0 v4_0 : V) : buildSliceL Try.prog 33 5 [(0, [v0_0]), (1, [v1_0]), (2, [v2_0]), (3, [v3_0]), (4, [v4_0])] = some ([v0_0, v1_0, v2_0, v3_0, v4_0], 27) := by kernel_rfl
theorem bs27_7 (v0_0 v1_0 v2_0 v3_0 v4_0 v5_0 v6_0 : V) : buildSliceL Try.prog 27 7 [(0, [v0_0]), (1, [v1_0]), (2, [v2_0]), (3, [v3_0]), (4, [v4_0]), (5, [v5_0]), (6, [v6_0])] = some ([v0_0, v1_0, v2_0, v3_0, v4_0, v5_0, v6_0], 5) := by kernel_rfl
theorem bs33_4 (v0_0 v1_0 v2_0 v3_0 : V) : buildSliceL Try.prog 33 4 [(0, [v0_0]), (1, [v1_0]), (2, [v2_0]), (3, [v3_0])] = some ([v0_0, v1_0, v2_0, v3_0], 27) := by kernel_rfl
theorem bu38_0_1 (v0_0 v1_0 : V) : buildV Try.prog 38 [(0, [v0_0]), (1, [v1_0])] = some (.agg [v0_0, v1_0, .str []]) := by kernel_rfl
theorem bs33_2 (v0_0 v1_0 : V) : buildSliceL Try.prog 33 2 [(0, [v0_0]), (1, [v1_0])] = some ([v0_0, v1_0], 27) := by kernel_rfl
theorem ps40 : ptrSz Try.prog 40 = true := by kernel_rfl
theorem bs27_4 (v0_0 v1_0 v2_0 v3_0 : V) : buildSliceL Try.prog 27 4 [(0, [v0_0]), (1, [v1_0]), (2, [v2_0]), (3, [v3_0])] = some ([v0_0, v1_0, v2_0, v3_0], 5) := by kernel_rfl
theorem ze51 : zeroL Try.prog 51 = some [.int .i64 0, .bool false, .int .u64 0, .int .u64 0, .int .u16 0, .int .u16 0, .str [], .nilslice, .int .u16 0, .str [], .str [], .int .u16 0, .int .u16 0, .int .u32 0, .int .u16 0, .int .u16 0, .int .u16 0] := by kernel_rfl
theorem sz51 : szT Try.prog 51 = some 17 := by kernel_rfl
theorem bu29_0 (v0_0 : V) : buildV Try.prog 29 [(0, [v0_0])] = some (.agg [v0_0, .str [], .int .u32 0, .int .u16 0, .int .u8 0, .int .u32 0, .int .u16 0, .nilslice]) := by kernel_rfl
theorem bs30_5 (v0_0 v1_0 v2_0 v3_0 v4_0 : V) : buildSliceL Try.prog 30 5 [(0, [v0_0]), (1, [v1_0]), (2, [v2_0]), (3, [v3_0]), (4, [v4_0])] = some ([v0_0, v1_0, v2_0, v3_0, v4_0], 3) := by kernel_rfl
theorem bs30_4 (v0_0 v1_0 v2_0 v3_0 : V) : buildSliceL Try.prog 30 4 [(0, [v0_0]), (1, [v1_0]), (2, [v2_0]), (3, [v3_0])] = some ([v0_0, v1_0, v2_0, v3_0], 3) := by kernel_rfl
theorem bs30_2 (v0_0 v1_0 : V) : buildSliceL Try.prog 30 2 [(0, [v0_0]), (1, [v1_0])] = some ([v0_0, v1_0], 3) := by kernel_rfl
theorem bu58 : buildV Try.prog 58 [] = some (.agg [.int .u32 0, .int .u8 0, .str [], .int .u32 0, .int .u16 0, .int .u8 0, .int .u32 0, .int .u16 0, .nilslice, .nilfunc, .bool false, .bool false, .int .i64 0, .nilslice, .nilslice, .int .i64 0, .bool false, .int .u16 0, .bool false, .bool false]) := by kernel_rfl
theorem bs59_2 (v0_0 v1_0 : V) : buildSliceL Try.prog 59 2 [(0, [v0_0]), (1, [v1_0])] = some ([v0_0, v1_0], 40) := by kernel_rfl
theorem ia59 (k o n m : Nat) (kd : IntKind) (i : Int) : indexAddrV Try.prog 59 (.slice k o n m) (.int kd i) = if 0 ≤ i ∧ i < n then some (.ptr k (o + i.toNat * 1)) else none := indexAddr_slice (e := 40) (by kernel_rfl) (by kernel_rfl) k o n m kd i
theorem ty40 : tyR Try.prog 40 = some (1, false) := by kernel_rfl
theorem ty51 : tyR Try.prog 51 = some (17, true) := by kernel_rfl
theorem bu51 : buildV Try.prog 51 [] = some (.agg [.int .i64 0, .bool false, .int .u64 0, .int .u64 0, .int .u16 0, .int .u16 0, .str [], .nilslice, .int .u16 0, .str [], .str [], .int .u16 0, .int .u16 0, .int .u32 0, .int .u16 0, .int .u16 0, .int .u16 0]) := by kernel_rfl
theorem bu38_0_1_2 (v0_0 v1_0 v2_0 : V) : buildV Try.prog 38 [(0, [v0_0]), (1, [v1_0]), (2, [v2_0])] = some (.agg [v0_0, v1_0, v2_0]) := by kernel_rfl
theorem ze38 : zeroL Try.prog 38 = some [.int .u16 0, .str [], .str []] := by kernel_rfl
theorem sz38 : szT Try.prog 38 = some 3 := by kernel_rfl
theorem ty38 : tyR Try.prog 38 = some (3, true) := by kernel_rfl
theorem ia33 (k o n m : Nat) (kd : IntKind) (i : Int) : indexAddrV Try.prog 33 (.slice k o n m) (.int kd i) = if 0 ≤ i ∧ i < n then some (.ptr k (o + i.toNat * 1)) else none := indexAddr_slice (e := 27) (by kernel_rfl) (by kernel_rfl) k o n m kd i
theorem ty27 : tyR Try.prog 27 = some (1, false) := by kernel_rfl
theorem fa51_0 (k o : Nat) : fieldAddrV Try.prog 51 (.ptr k o) 0 = some (.ptr k (o + 0)) := by kernel_rfl
theorem ty3 : tyR Try.prog 3 = some (1, false) := by kernel_rfl
theorem fa51_1 (k o : Nat) : fieldAddrV Try.prog 51 (.ptr k o) 1 = some (.ptr k (o + 1)) := by kernel_rfl
theorem ty4 : tyR Try.prog 4 = some (1, false) := by kernel_rfl
theorem fa51_3 (k o : Nat) : fieldAddrV Try.prog 51 (.ptr k o) 3 = some (.ptr k (o + 8)) := by kernel_rfl
-- eq on type 38
theorem fa51_2 (k o : Nat) : fieldAddrV Try.prog 51 (.ptr k o) 2 = some (.ptr k (o + 2)) := by kernel_rfl
theorem fa45_2 (k o : Nat) : fieldAddrV Try.prog 45 (.ptr k o) 2 = some (.ptr k (o + 2)) := by kernel_rfl
theorem ty26 : tyR Try.prog 26 = some (1, false) := by kernel_rfl
-- eq on type 4
theorem bs30_1 (v0_0 : V) : buildSliceL Try.prog 30 1 [(0, [v0_0])] = some ([v0_0], 3) := by kernel_rfl
theorem ap30 : apI Try.prog 30 = some (3, 1, 8) := by kernel_rfl
theorem bs27_19 (v0_0 v1_0 v2_0 v3_0 v4_0 v5_0 v6_0 v7_0 v8_0 v9_0 v10_0 v11_0 v12_0 v13_0 v14_0 v15_0 v16_0 v17_0 v18_0 : V) : buildSliceL Try.prog 27 19 [(0, [v0_0]), (1, [v1_0]), (2, [v2_0]), (3, [v3_0]), (4, [v4_0]), (5, [v5_0]), (6, [v6_0]), (7, [v7_0]), (8, [v8_0]), (9, [v9_0]), (10, [v10_0]), (11, [v11_0]), (12, [v12_0]), (13, [v13_0]), (14, [v14_0]), (15, [v15_0]), (16, [v16_0]), (17, [v17_0]), (18, [v18_0])] = some ([v0_0, v1_0, v2_0, v3_0, v4_0, v5_0, v6_0, v7_0, v8_0, v9_0, v10_0, v11_0, v12_0, v13_0, v14_0, v15_0, v16_0, v17_0, v18_0], 5) := by kernel_rfl
theorem ap27 : apI Try.prog 27 = some (5, 1, 1) := by kernel_rfl
theorem fa38_1 (k o : Nat) : fieldAddrV Try.prog 38 (.ptr k o) 1 = some (.ptr k (o + 1)) := by kernel_rfl
theorem ty9 : tyR Try.prog 9 = some (1, false) := by kernel_rfl
theorem fa38_0 (k o : Nat) : fieldAddrV Try.prog 38 (.ptr k o) 0 = some (.ptr k (o + 0)) := by kernel_rfl
theorem fa38_2 (k o : Nat) : fieldAddrV Try.prog 38 (.ptr k o) 2 = some (.ptr k (o + 2)) := by kernel_rfl
theorem bu45_2 (v2_0 : V) : buildV Try.prog 45 [(2, [v2_0])] = some (.agg [.int .u64 0, .int .u64 0, v2_0, .int .u16 0, .str [], .nilslice]) := by kernel_rfl
theorem fa29_0 (k o : Nat) : fieldAddrV Try.prog 29 (.ptr k o) 0 = some (.ptr k (o + 0)) := by kernel_rfl
theorem ty5 : tyR Try.prog 5 = some (1, false) := by kernel_rfl
theorem ia56 (k o n m : Nat) (kd : IntKind) (i : Int) : indexAddrV Try.prog 56 (.slice k o n m) (.int kd i) = if 0 ≤ i ∧ i < n then some (.ptr k (o + i.toNat * 10)) else none := indexAddr_slice (e := 74) (by kernel_rfl) (by kernel_rfl) k o n m kd i
theorem ty74 : tyR Try.prog 74 = some (10, true) := by kernel_rfl
theorem ze74 : zeroL Try.prog 74 = some [.str [], .str [], .str [], .str [], .str [], .int .u16 0, .int .u32 0, .int .u8 0, .int .u16 0, .int .u8 0] := by kernel_rfl
theorem sz74 : szT Try.prog 74 = some 10 := by kernel_rfl
theorem bu58_0_1_12_11 (v0_0 v1_0 v1_1 v1_2 v1_3 v1_4 v1_5 v1_6 v1_7 v12_0 v11_0 : V) : buildV Try.prog 58 [(0, [v0_0]), (1, [v1_0, v1_1, v1_2, v1_3, v1_4, v1_5, v1_6, v1_7]), (12, [v12_0]), (11, [v11_0])] = some (.agg [v0_0, v1_0, v1_1, v1_2, v1_3, v1_4, v1_5, v1_6, v1_7, .nilfunc, .bool false, .bool false, .int .i64 0, .nilslice, .nilslice, .int .i64 0, .bool false, .int .u16 0, v11_0, v12_0]) := by kernel_rfl
theorem fa58_6 (k o : Nat) : fieldAddrV Try.prog 58 (.ptr k o) 6 = some (.ptr k (o + 13)) := by kernel_rfl
theorem sz56 : szT Try.prog 56 = some 1 := by kernel_rfl
theorem fa58_2 (k o : Nat) : fieldAddrV Try.prog 58 (.ptr k o) 2 = some (.ptr k (o + 9)) := by kernel_rfl
theorem ty55 : tyR Try.prog 55 = some (1, false) := by kernel_rfl
-- eq on type 55
theorem fa58_4 (k o : Nat) : fieldAddrV Try.prog 58 (.ptr k o) 4 = some (.ptr k (o + 11)) := by kernel_rfl
theorem ia30 (k o n m : Nat) (kd : IntKind) (i : Int) : indexAddrV Try.prog 30 (.slice k o n m) (.int kd i) = if 0 ≤ i ∧ i < n then some (.ptr k (o + i.toNat * 1)) else none := indexAddr_slice (e := 3) (by kernel_rfl) (by kernel_rfl) k o n m kd i
theorem fa45_0 (k o : Nat) : fieldAddrV Try.prog 45 (.ptr k o) 0 = some (.ptr k (o + 0)) := by kernel_rfl
theorem ty43 : tyR Try.prog 43 = some (1, false) := by kernel_rfl
theorem fa45_1 (k o : Nat) : fieldAddrV Try.prog 45 (.ptr k o) 1 = some (.ptr k (o + 1)) := by kernel_rfl
theorem fa45_3 (k o : Nat) : fieldAddrV Try.prog 45 (.ptr k o) 3 = some (.ptr k (o + 3)) := by kernel_rfl
theorem fa45_4 (k o : Nat) : fieldAddrV Try.prog 45 (.ptr k o) 4 = some (.ptr k (o + 4)) := by kernel_rfl
theorem fa45_5 (k o : Nat) : fieldAddrV Try.prog 45 (.ptr k o) 5 = some (.ptr k (o + 5)) := by kernel_rfl
theorem fa51_4 (k o : Nat) : fieldAddrV Try.prog 51 (.ptr k o) 4 = some (.ptr k (o + 11)) := by kernel_rfl
theorem ty47 : tyR Try.prog 47 = some (2, true) := by kernel_rfl
-- eq on type 47
theorem fa51_5 (k o : Nat) : fieldAddrV Try.prog 51 (.ptr k o) 5 = some (.ptr k (o + 13)) := by kernel_rfl
theorem ty49 : tyR Try.prog 49 = some (4, true) := by kernel_rfl
-- eq on type 49
theorem sz4 : szT Try.prog 4 = some 1 := by kernel_rfl
theorem fa58_3 (k o : Nat) : fieldAddrV Try.prog 58 (.ptr k o) 3 = some (.ptr k (o + 10)) := by kernel_rfl
theorem ty56 : tyR Try.prog 56 = some (1, false) := by kernel_rfl
theorem fa58_10 (k o : Nat) : fieldAddrV Try.prog 58 (.ptr k o) 10 = some (.ptr k (o + 17)) := by kernel_rfl
theorem fa29_1 (k o : Nat) : fieldAddrV Try.prog 29 (.ptr k o) 1 = some (.ptr k (o + 1)) := by kernel_rfl
theorem fa29_2 (k o : Nat) : fieldAddrV Try.prog 29 (.ptr k o) 2 = some (.ptr k (o + 2)) := by kernel_rfl
theorem ty23 : tyR Try.prog 23 = some (1, false) := by kernel_rfl
theorem fa29_3 (k o : Nat) : fieldAddrV Try.prog 29 (.ptr k o) 3 = some (.ptr k (o + 3)) := by kernel_rfl
theorem fa29_4 (k o : Nat) : fieldAddrV Try.prog 29 (.ptr k o) 4 = some (.ptr k (o + 4)) := by kernel_rfl
theorem fa29_5 (k o : Nat) : fieldAddrV Try.prog 29 (.ptr k o) 5 = some (.ptr k (o + 5)) := by kernel_rfl
theorem fa29_6 (k o : Nat) : fieldAddrV Try.prog 29 (.ptr k o) 6 = some (.ptr k (o + 6)) := by kernel_rfl
theorem fa29_7 (k o : Nat) : fieldAddrV Try.prog 29 (.ptr k o) 7 = some (.ptr k (o + 7)) := by kernel_rfl
-- eq on type 27
theorem bs27_0 : buildSliceL Try.prog 27 0 [] = some ([], 5) := by kernel_rfl
theorem ty45 : tyR Try.prog 45 = some (6, true) := by kernel_rfl
theorem by27 : byteS Try.prog 27 = true := by kernel_rfl
theorem el27 : elemS Try.prog 27 = 5 := by kernel_rfl
theorem fa74_0 (k o : Nat) : fieldAddrV Try.prog 74 (.ptr k o) 0 = some (.ptr k (o + 0)) := by kernel_rfl
theorem fa74_1 (k o : Nat) : fieldAddrV Try.prog 74 (.ptr k o) 1 = some (.ptr k (o + 1)) := by kernel_rfl
theorem fa74_2 (k o : Nat) : fieldAddrV Try.prog 74 (.ptr k o) 2 = some (.ptr k (o + 2)) := by kernel_rfl
theorem fa74_3 (k o : Nat) : fieldAddrV Try.prog 74 (.ptr k o) 3 = some (.ptr k (o + 3)) := by kernel_rfl
theorem fa74_4 (k o : Nat) : fieldAddrV Try.prog 74 (.ptr k o) 4 = some (.ptr k (o + 4)) := by kernel_rfl
theorem bs85_5 (v0_0 v1_0 v2_0 v3_0 v4_0 : V) : buildSliceL Try.prog 85 5 [(0, [v0_0]), (1, [v1_0]), (2, [v2_0]), (3, [v3_0]), (4, [v4_0])] = some ([v0_0, v1_0, v2_0, v3_0, v4_0], 9) := by kernel_rfl
theorem ia85 (k o n m : Nat) (kd : IntKind) (i : Int) : indexAddrV Try.prog 85 (.slice k o n m) (.int kd i) = if 0 ≤ i ∧ i < n then some (.ptr k (o + i.toNat * 1)) else none := indexAddr_slice (e := 9) (by kernel_rfl) (by kernel_rfl) k o n m kd i
theorem fa74_7 (k o : Nat) : fieldAddrV Try.prog 74 (.ptr k o) 7 = some (.ptr k (o + 7)) := by kernel_rfl
-- eq on type 56
theorem bs56_0 : buildSliceL Try.prog 56 0 [] = some ([], 74) := by kernel_rfl
theorem ap56 : apI Try.prog 56 = some (74, 10, 96) := by kernel_rfl
theorem sz55 : szT Try.prog 55 = some 1 := by kernel_rfl
theorem fa58_0 (k o : Nat) : fieldAddrV Try.prog 58 (.ptr k o) 0 = some (.ptr k (o + 0)) := by kernel_rfl
theorem ty24 : tyR Try.prog 24 = some (1, false) := by kernel_rfl
theorem ze47 : zeroL Try.prog 47 = some [.int .u16 0, .int .u16 0] := by kernel_rfl
theorem sz47 : szT Try.prog 47 = some 2 := by kernel_rfl
theorem bu51_0_1_4 (v0_0 v1_0 v4_0 v4_1 : V) : buildV Try.prog 51 [(0, [v0_0]), (1, [v1_0]), (4, [v4_0, v4_1])] = some (.agg [v0_0, v1_0, .int .u64 0, .int .u64 0, .int .u16 0, .int .u16 0, .str [], .nilslice, .int .u16 0, .str [], .str [], v4_0, v4_1, .int .u32 0, .int .u16 0, .int .u16 0, .int .u16 0]) := by kernel_rfl
theorem ia27 (k o n m : Nat) (kd : IntKind) (i : Int) : indexAddrV Try.prog 27 (.slice k o n m) (.int kd i) = if 0 ≤ i ∧ i < n then some (.ptr k (o + i.toNat * 1)) else none := indexAddr_slice (e := 5) (by kernel_rfl) (by kernel_rfl) k o n m kd i
theorem bu51_0_1 (v0_0 v1_0 : V) : buildV Try.prog 51 [(0, [v0_0]), (1, [v1_0])] = some (.agg [v0_0, v1_0, .int .u64 0, .int .u64 0, .int .u16 0, .int .u16 0, .str [], .nilslice, .int .u16 0, .str [], .str [], .int .u16 0, .int .u16 0, .int .u32 0, .int .u16 0, .int .u16 0, .int .u16 0]) := by kernel_rfl
theorem bu51_0 (v0_0 : V) : buildV Try.prog 51 [(0, [v0_0])] = some (.agg [v0_0, .bool false, .int .u64 0, .int .u64 0, .int .u16 0, .int .u16 0, .str [], .nilslice, .int .u16 0, .str [], .str [], .int .u16 0, .int .u16 0, .int .u32 0, .int .u16 0, .int .u16 0, .int .u16 0]) := by kernel_rfl
theorem fa58_5 (k o : Nat) : fieldAddrV Try.prog 58 (.ptr k o) 5 = some (.ptr k (o + 12)) := by kernel_rfl
theorem sz3 : szT Try.prog 3 = some 1 := by kernel_rfl
theorem fa58_7 (k o : Nat) : fieldAddrV Try.prog 58 (.ptr k o) 7 = some (.ptr k (o + 14)) := by kernel_rfl
theorem ze49 : zeroL Try.prog 49 = some [.int .u32 0, .int .u16 0, .int .u16 0, .int .u16 0] := by kernel_rfl
theorem sz49 : szT Try.prog 49 = some 4 := by kernel_rfl
theorem fa49_2 (k o : Nat) : fieldAddrV Try.prog 49 (.ptr k o) 2 = some (.ptr k (o + 2)) := by kernel_rfl
theorem fa49_1 (k o : Nat) : fieldAddrV Try.prog 49 (.ptr k o) 1 = some (.ptr k (o + 1)) := by kernel_rfl
theorem fa58_8 (k o : Nat) : fieldAddrV Try.prog 58 (.ptr k o) 8 = some (.ptr k (o + 15)) := by kernel_rfl
theorem bu51_0_1_5 (v0_0 v1_0 v5_0 v5_1 v5_2 v5_3 : V) : buildV Try.prog 51 [(0, [v0_0]), (1, [v1_0]), (5, [v5_0, v5_1, v5_2, v5_3])] = some (.agg [v0_0, v1_0, .int .u64 0, .int .u64 0, .int .u16 0, .int .u16 0, .str [], .nilslice, .int .u16 0, .str [], .str [], .int .u16 0, .int .u16 0, v5_0, v5_1, v5_2, v5_3]) := by kernel_rfl
theorem fa58_1 (k o : Nat) : fieldAddrV Try.prog 58 (.ptr k o) 1 = some (.ptr k (o + 1)) := by kernel_rfl
theorem fa47_1 (k o : Nat) : fieldAddrV Try.prog 47 (.ptr k o) 1 = some (.ptr k (o + 1)) := by kernel_rfl
theorem fa58_11 (k o : Nat) : fieldAddrV Try.prog 58 (.ptr k o) 11 = some (.ptr k (o + 18)) := by kernel_rfl
theorem bu51_0_1_3 (v0_0 v1_0 v3_0 v3_1 v3_2 : V) : buildV Try.prog 51 [(0, [v0_0]), (1, [v1_0]), (3, [v3_0, v3_1, v3_2])] = some (.agg [v0_0, v1_0, .int .u64 0, .int .u64 0, .int .u16 0, .int .u16 0, .str [], .nilslice, v3_0, v3_1, v3_2, .int .u16 0, .int .u16 0, .int .u32 0, .int .u16 0, .int .u16 0, .int .u16 0]) := by kernel_rfl
theorem fa58_12 (k o : Nat) : fieldAddrV Try.prog 58 (.ptr k o) 12 = some (.ptr k (o + 19)) := by kernel_rfl
theorem sz9 : szT Try.prog 9 = some 1 := by kernel_rfl
theorem sz23 : szT Try.prog 23 = some 1 := by kernel_rfl
theorem sz5 : szT Try.prog 5 = some 1 := by kernel_rfl
theorem sz27 : szT Try.prog 27 = some 1 := by kernel_rfl
theorem sz26 : szT Try.prog 26 = some 1 := by kernel_rfl
theorem ze45 : zeroL Try.prog 45 = some [.int .u64 0, .int .u64 0, .int .u16 0, .int .u16 0, .str [], .nilslice] := by kernel_rfl
theorem sz45 : szT Try.prog 45 = some 6 := by kernel_rfl
theorem bu51_0_1_2 (v0_0 v1_0 v2_0 v2_1 v2_2 v2_3 v2_4 v2_5 : V) : buildV Try.prog 51 [(0, [v0_0]), (1, [v1_0]), (2, [v2_0, v2_1, v2_2, v2_3, v2_4, v2_5])] = some (.agg [v0_0, v1_0, v2_0, v2_1, v2_2, v2_3, v2_4, v2_5, .int .u16 0, .str [], .str [], .int .u16 0, .int .u16 0, .int .u32 0, .int .u16 0, .int .u16 0, .int .u16 0]) := by kernel_rfl
theorem bu47 : buildV Try.prog 47 [] = some (.agg [.int .u16 0, .int .u16 0]) := by kernel_rfl
theorem bu114_0 (v0_0 : V) : buildV Try.prog 114 [(0, [v0_0])] = some (.agg [v0_0, .int .i64 0]) := by kernel_rfl
theorem fa114_1 (k o : Nat) : fieldAddrV Try.prog 114 (.ptr k o) 1 = some (.ptr k (o + 1)) := by kernel_rfl
theorem ty34 : tyR Try.prog 34 = some (1, false) := by kernel_rfl
theorem fa114_0 (k o : Nat) : fieldAddrV Try.prog 114 (.ptr k o) 0 = some (.ptr k (o + 0)) := by kernel_rfl
theorem sz34 : szT Try.prog 34 = some 1 := by kernel_rfl
theorem bu49_0_1_2 (v0_0 v1_0 v2_0 : V) : buildV Try.prog 49 [(0, [v0_0]), (1, [v1_0]), (2, [v2_0])] = some (.agg [v0_0, v1_0, v2_0, .int .u16 0]) := by kernel_rfl
theorem fa49_3 (k o : Nat) : fieldAddrV Try.prog 49 (.ptr k o) 3 = some (.ptr k (o + 3)) := by kernel_rfl
theorem bu49 : buildV Try.prog 49 [] = some (.agg [.int .u32 0, .int .u16 0, .int .u16 0, .int .u16 0]) := by kernel_rfl
theorem fa58_9 (k o : Nat) : fieldAddrV Try.prog 58 (.ptr k o) 9 = some (.ptr k (o + 16)) := by kernel_rfl
theorem ia101 (k o n m : Nat) (kd : IntKind) (i : Int) : indexAddrV Try.prog 101 (.slice k o n m) (.int kd i) = if 0 ≤ i ∧ i < n then some (.ptr k (o + i.toNat * 2)) else none := indexAddr_slice (e := 122) (by kernel_rfl) (by kernel_rfl) k o n m kd i
theorem ty122 : tyR Try.prog 122 = some (2, true) := by kernel_rfl
theorem ze122 : zeroL Try.prog 122 = some [.int .u8 0, .bool false] := by kernel_rfl
theorem sz122 : szT Try.prog 122 = some 2 := by kernel_rfl
theorem ze27 : zeroL Try.prog 27 = some [.nilslice] := by kernel_rfl
theorem fa122_0 (k o : Nat) : fieldAddrV Try.prog 122 (.ptr k o) 0 = some (.ptr k (o + 0)) := by kernel_rfl
theorem bu129 : buildV Try.prog 129 [] = some (.agg [.int .i64 0, .int .i64 0, .int .u64 0, .str [], .bool false, .int .i64 0, .int .i64 0, .int .i64 0, .int .i64 0, .int .i64 0, .int .i64 0, .int .i64 0]) := by kernel_rfl
theorem bs98_1 (v0_0 v0_1 v0_2 v0_3 v0_4 v0_5 v0_6 v0_7 v0_8 v0_9 v0_10 v0_11 : V) : buildSliceL Try.prog 98 1 [(0, [v0_0, v0_1, v0_2, v0_3, v0_4, v0_5, v0_6, v0_7, v0_8, v0_9, v0_10, v0_11])] = some ([v0_0, v0_1, v0_2, v0_3, v0_4, v0_5, v0_6, v0_7, v0_8, v0_9, v0_10, v0_11], 129) := by kernel_rfl
theorem ap98 : apI Try.prog 98 = some (129, 12, 104) := by kernel_rfl
theorem ze129 : zeroL Try.prog 129 = some [.int .i64 0, .int .i64 0, .int .u64 0, .str [], .bool false, .int .i64 0, .int .i64 0, .int .i64 0, .int .i64 0, .int .i64 0, .int .i64 0, .int .i64 0] := by kernel_rfl
theorem sz129 : szT Try.prog 129 = some 12 := by kernel_rfl
theorem ty129 : tyR Try.prog 129 = some (12, true) := by kernel_rfl
theorem fa74_8 (k o : Nat) : fieldAddrV Try.prog 74 (.ptr k o) 8 = some (.ptr k (o + 8)) := by kernel_rfl
theorem bu122_0_1 (v0_0 v1_0 : V) : buildV Try.prog 122 [(0, [v0_0]), (1, [v1_0])] = some (.agg [v0_0, v1_0]) := by kernel_rfl
theorem bu129_0_3 (v0_0 v3_0 : V) : buildV Try.prog 129 [(0, [v0_0]), (3, [v3_0])] = some (.agg [v0_0, .int .i64 0, .int .u64 0, v3_0, .bool false, .int .i64 0, .int .i64 0, .int .i64 0, .int .i64 0, .int .i64 0, .int .i64 0, .int .i64 0]) := by kernel_rfl
theorem bu38_0 (v0_0 : V) : buildV Try.prog 38 [(0, [v0_0])] = some (.agg [v0_0, .str [], .str []]) := by kernel_rfl
theorem bu38 : buildV Try.prog 38 [] = some (.agg [.int .u16 0, .str [], .str []]) := by kernel_rfl
theorem ty108 : tyR Try.prog 108 = some (256, true) := by kernel_rfl
theorem ze108 : zeroL Try.prog 108 = some [.str [], .str [], .str [], .str [], .str [], .str [], .str [], .str [], .str [], .str [], .str [], .str [], .str [], .str [], .str [], .str [], .str [], .str [], .str [], .str [], .str [], .str [], .str [], .str [], .str [], .str [], .str [], .str [], .str [], .str [], .str [], .str [], .str [], .str [], .str [], .str [], .str [], .str [], .str [], .str [], .str [], .str [], .str [], .str [], .str [], .str [], .str [], .str [], .str [], .str [], .str [], .str [], .str [], .str [], .str [], .str [], .str [], .str [], .str [], .str [], .str [], .str [], .str [], .str [], .str [], .str [], .str [], .str [], .str [], .str [], .str [], .str [], .str [], .str [], .str [], .str [], .str [], .str [], .str [], .str [], .str [], .str [], .str [], .str [], .str [], .str [], .str [], .str [], .str [], .str [], .str [], .str [], .str [], .str [], .str [], .str [], .str [], .str [], .str [], .str [], .str [], .str [], .str [], .str [], .str [], .str [], .str [], .str [], .str [], .str [], .str [], .str [], .str [], .str [], .str [], .str [], .str [], .str [], .str [], .str [], .str [], .str [], .str [], .str [], .str [], .str [], .str [], .str [], .str [], .str [], .str [], .str [], .str [], .str [], .str [], .str [], .str [], .str [], .str [], .str [], .str [], .str [], .str [], .str [], .str [], .str [], .str [], .str [], .str [], .str [], .str [], .str [], .str [], .str [], .str [], .str [], .str [], .str [], .str [], .str [], .str [], .str [], .str [], .str [], .str [], .str [], .str [], .str [], .str [], .str [], .str [], .str [], .str [], .str [], .str [], .str [], .str [], .str [], .str [], .str [], .str [], .str [], .str [], .str [], .str [], .str [], .str [], .str [], .str [], .str [], .str [], .str [], .str [], .str [], .str [], .str [], .str [], .str [], .str [], .str [], .str [], .str [], .str [], .str [], .str [], .str [], .str [], .str [], .str [], .str [], .str [], .str [], .str [], .str [], .str [], .str [], .str [], .str [], .str [], .str [], .str [], .str [], .str [], .str [], .str [], .str [], .str [], .str [], .str [], .str [], .str [], .str [], .str [], .str [], .str [], .str [], .str [], .str [], .str [], .str [], .str [], .str [], .str [], .str [], .str [], .str [], .str [], .str [], .str [], .str [], .str [], .str [], .str [], .str [], .str [], .str []] := by kernel_rfl
theorem bu108_0_1_2_3_4_5_6_7_8_9_10_11_12_13_15_16_245_246_247_248_249_250_251_252_253_254_255 (v0_0 v1_0 v2_0 v3_0 v4_0 v5_0 v6_0 v7_0 v8_0 v9_0 v10_0 v11_0 v12_0 v13_0 v15_0 v16_0 v245_0 v246_0 v247_0 v248_0 v249_0 v250_0 v251_0 v252_0 v253_0 v254_0 v255_0 : V) : buildV Try.prog 108 [(0, [v0_0]), (1, [v1_0]), (2, [v2_0]), (3, [v3_0]), (4, [v4_0]), (5, [v5_0]), (6, [v6_0]), (7, [v7_0]), (8, [v8_0]), (9, [v9_0]), (10, [v10_0]), (11, [v11_0]), (12, [v12_0]), (13, [v13_0]), (15, [v15_0]), (16, [v16_0]), (245, [v245_0]), (246, [v246_0]), (247, [v247_0]), (248, [v248_0]), (249, [v249_0]), (250, [v250_0]), (251, [v251_0]), (252, [v252_0]), (253, [v253_0]), (254, [v254_0]), (255, [v255_0])] = some (.agg [v0_0, v1_0, v2_0, v3_0, v4_0, v5_0, v6_0, v7_0, v8_0, v9_0, v10_0, v11_0, v12_0, v13_0, .str [], v15_0, v16_0, .str [], .str [], .str [], .str [], .str [], .str [], .str [], .str [], .str [], .str [], .str [], .str [], .str [], .str [], .str [], .str [], .str [], .str [], .str [], .str [], .str [], .str [], .str [], .str [], .str [], .str [], .str [], .str [], .str [], .str [], .str [], .str [], .str [], .str [], .str [], .str [], .str [], .str [], .str [], .str [], .str [], .str [], .str [], .str [], .str [], .str [], .str [], .str [], .str [], .str [], .str [], .str [], .str [], .str [], .str [], .str [], .str [], .str [], .str [], .str [], .str [], .str [], .str [], .str [], .str [], .str [], .str [], .str [], .str [], .str [], .str [], .str [], .str [], .str [], .str [], .str [], .str [], .str [], .str [], .str [], .str [], .str [], .str [], .str [], .str [], .str [], .str [], .str [], .str [], .str [], .str [], .str [], .str [], .str [], .str [], .str [], .str [], .str [], .str [], .str [], .str [], .str [], .str [], .str [], .str [], .str [], .str [], .str [], .str [], .str [], .str [], .str [], .str [], .str [], .str [], .str [], .str [], .str [], .str [], .str [], .str [], .str [], .str [], .str [], .str [], .str [], .str [], .str [], .str [], .str [], .str [], .str [], .str [], .str [], .str [], .str [], .str [], .str [], .str [], .str [], .str [], .str [], .str [], .str [], .str [], .str [], .str [], .str [], .str [], .str [], .str [], .str [], .str [], .str [], .str [], .str [], .str [], .str [], .str [], .str [], .str [], .str [], .str [], .str [], .str [], .str [], .str [], .str [], .str [], .str [], .str [], .str [], .str [], .str [], .str [], .str [], .str [], .str [], .str [], .str [], .str [], .str [], .str [], .str [], .str [], .str [], .str [], .str [], .str [], .str [], .str [], .str [], .str [], .str [], .str [], .str [], .str [], .str [], .str [], .str [], .str [], .str [], .str [], .str [], .str [], .str [], .str [], .str [], .str [], .str [], .str [], .str [], .str [], .str [], .str [], .str [], .str [], .str [], .str [], .str [], .str [], .str [], .str [], .str [], .str [], .str [], .str [], .str [], v245_0, v246_0, v247_0, v248_0, v249_0, v250_0, v251_0, v252_0, v253_0, v254_0, v255_0]) := by kernel_rfl
theorem sz108 : szT Try.prog 108 = some 256 := by kernel_rfl
theorem bu45_0_1_2_3 (v0_0 v1_0 v2_0 v3_0 : V) : buildV Try.prog 45 [(0, [v0_0]), (1, [v1_0]), (2, [v2_0]), (3, [v3_0])] = some (.agg [v0_0, v1_0, v2_0, v3_0, .str [], .nilslice]) := by kernel_rfl
theorem bu45 : buildV Try.prog 45 [] = some (.agg [.int .u64 0, .int .u64 0, .int .u16 0, .int .u16 0, .str [], .nilslice]) := by kernel_rfl
theorem bu47_0_1 (v0_0 v1_0 : V) : buildV Try.prog 47 [(0, [v0_0]), (1, [v1_0])] = some (.agg [v0_0, v1_0]) := by kernel_rfl
theorem bs56_1 (v0_0 v0_1 v0_2 v0_3 v0_4 v0_5 v0_6 v0_7 v0_8 v0_9 : V) : buildSliceL Try.prog 56 1 [(0, [v0_0, v0_1, v0_2, v0_3, v0_4, v0_5, v0_6, v0_7, v0_8, v0_9])] = some ([v0_0, v0_1, v0_2, v0_3, v0_4, v0_5, v0_6, v0_7, v0_8, v0_9], 74) := by kernel_rfl
theorem fa122_1 (k o : Nat) : fieldAddrV Try.prog 122 (.ptr k o) 1 = some (.ptr k (o + 1)) := by kernel_rfl
theorem ze127 : zeroL Try.prog 127 = some [.bool false, .int .i64 0, .int .i64 0, .int .i64 0, .int .i64 0, .int .i64 0, .int .i64 0, .int .i64 0] := by kernel_rfl
theorem sz127 : szT Try.prog 127 = some 8 := by kernel_rfl
theorem ty127 : tyR Try.prog 127 = some (8, true) := by kernel_rfl
theorem bu129_0_4 (v0_0 v4_0 v4_1 v4_2 v4_3 v4_4 v4_5 v4_6 v4_7 : V) : buildV Try.prog 129 [(0, [v0_0]), (4, [v4_0, v4_1, v4_2, v4_3, v4_4, v4_5, v4_6, v4_7])] = some (.agg [v0_0, .int .i64 0, .int .u64 0, .str [], v4_0, v4_1, v4_2, v4_3, v4_4, v4_5, v4_6, v4_7]) := by kernel_rfl
theorem bu129_0_1 (v0_0 v1_0 : V) : buildV Try.prog 129 [(0, [v0_0]), (1, [v1_0])] = some (.agg [v0_0, v1_0, .int .u64 0, .str [], .bool false, .int .i64 0, .int .i64 0, .int .i64 0, .int .i64 0, .int .i64 0, .int .i64 0, .int .i64 0]) := by kernel_rfl
theorem bu129_0_2 (v0_0 v2_0 : V) : buildV Try.prog 129 [(0, [v0_0]), (2, [v2_0])] = some (.agg [v0_0, .int .i64 0, v2_0, .str [], .bool false, .int .i64 0, .int .i64 0, .int .i64 0, .int .i64 0, .int .i64 0, .int .i64 0, .int .i64 0]) := by kernel_rfl
theorem bu146_0 (v0_0 : V) : buildV Try.prog 146 [(0, [v0_0])] = some (.agg [v0_0, .int .i64 0]) := by kernel_rfl
theorem bs149_5 (v0_0 v1_0 v2_0 v3_0 v4_0 : V) : buildSliceL Try.prog 149 5 [(0, [v0_0]), (1, [v1_0]), (2, [v2_0]), (3, [v3_0]), (4, [v4_0])] = some ([v0_0, v1_0, v2_0, v3_0, v4_0], 148) := by kernel_rfl
theorem ia149 (k o n m : Nat) (kd : IntKind) (i : Int) : indexAddrV Try.prog 149 (.slice k o n m) (.int kd i) = if 0 ≤ i ∧ i < n then some (.ptr k (o + i.toNat * 1)) else none := indexAddr_slice (e := 148) (by kernel_rfl) (by kernel_rfl) k o n m kd i
theorem ty148 : tyR Try.prog 148 = some (1, false) := by kernel_rfl
theorem fa74_5 (k o : Nat) : fieldAddrV Try.prog 74 (.ptr k o) 5 = some (.ptr k (o + 5)) := by kernel_rfl
theorem fa74_6 (k o : Nat) : fieldAddrV Try.prog 74 (.ptr k o) 6 = some (.ptr k (o + 6)) := by kernel_rfl
theorem fa74_9 (k o : Nat) : fieldAddrV Try.prog 74 (.ptr k o) 9 = some (.ptr k (o + 9)) := by kernel_rfl
theorem fa146_0 (k o : Nat) : fieldAddrV Try.prog 146 (.ptr k o) 0 = some (.ptr k (o + 0)) := by kernel_rfl
theorem fa146_1 (k o : Nat) : fieldAddrV Try.prog 146 (.ptr k o) 1 = some (.ptr k (o + 1)) := by kernel_rfl
theorem bu74 : buildV Try.prog 74 [] = some (.agg [.str [], .str [], .str [], .str [], .str [], .int .u16 0, .int .u32 0, .int .u8 0, .int .u16 0, .int .u8 0]) := by kernel_rfl
theorem bs30_3 (v0_0 v1_0 v2_0 : V) : buildSliceL Try.prog 30 3 [(0, [v0_0]), (1, [v1_0]), (2, [v2_0])] = some ([v0_0, v1_0, v2_0], 3) := by kernel_rfl
theorem bu127_0_3_4_5_6_7 (v0_0 v3_0 v4_0 v5_0 v6_0 v7_0 : V) : buildV Try.prog 127 [(0, [v0_0]), (3, [v3_0]), (4, [v4_0]), (5, [v5_0]), (6, [v6_0]), (7, [v7_0])] = some (.agg [v0_0, .int .i64 0, .int .i64 0, v3_0, v4_0, v5_0, v6_0, v7_0]) := by kernel_rfl
theorem bu127_1_2_3_4_5_6_7 (v1_0 v2_0 v3_0 v4_0 v5_0 v6_0 v7_0 : V) : buildV Try.prog 127 [(1, [v1_0]), (2, [v2_0]), (3, [v3_0]), (4, [v4_0]), (5, [v5_0]), (6, [v6_0]), (7, [v7_0])] = some (.agg [.bool false, v1_0, v2_0, v3_0, v4_0, v5_0, v6_0, v7_0]) := by kernel_rfl
theorem bu127 : buildV Try.prog 127 [] = some (.agg [.bool false, .int .i64 0, .int .i64 0, .int .i64 0, .int .i64 0, .int .i64 0, .int .i64 0, .int .i64 0]) := by kernel_rfl
theorem fa127_1 (k o : Nat) : fieldAddrV Try.prog 127 (.ptr k o) 1 = some (.ptr k (o + 1)) := by kernel_rfl
theorem fa127_2 (k o : Nat) : fieldAddrV Try.prog 127 (.ptr k o) 2 = some (.ptr k (o + 2)) := by kernel_rfl
theorem fa127_3 (k o : Nat) : fieldAddrV Try.prog 127 (.ptr k o) 3 = some (.ptr k (o + 3)) := by kernel_rfl
theorem fa127_0 (k o : Nat) : fieldAddrV Try.prog 127 (.ptr k o) 0 = some (.ptr k (o + 0)) := by kernel_rfl
theorem bu127_0 (v0_0 : V) : buildV Try.prog 127 [(0, [v0_0])] = some (.agg [v0_0, .int .i64 0, .int .i64 0, .int .i64 0, .int .i64 0, .int .i64 0, .int .i64 0, .int .i64 0]) := by kernel_rfl
-- eq on type 127
theorem bu127_1_2_3 (v1_0 v2_0 v3_0 : V) : buildV Try.prog 127 [(1, [v1_0]), (2, [v2_0]), (3, [v3_0])] = some (.agg [.bool false, v1_0, v2_0, v3_0, .int .i64 0, .int .i64 0, .int .i64 0, .int .i64 0]) := by kernel_rfl
theorem fa127_4 (k o : Nat) : fieldAddrV Try.prog 127 (.ptr k o) 4 = some (.ptr k (o + 4)) := by kernel_rfl
theorem fa127_5 (k o : Nat) : fieldAddrV Try.prog 127 (.ptr k o) 5 = some (.ptr k (o + 5)) := by kernel_rfl
theorem fa127_6 (k o : Nat) : fieldAddrV Try.prog 127 (.ptr k o) 6 = some (.ptr k (o + 6)) := by kernel_rfl
theorem fa127_7 (k o : Nat) : fieldAddrV Try.prog 127 (.ptr k o) 7 = some (.ptr k (o + 7)) := by kernel_rfl
noncomputable def factsT := And.intro @Try.underlying2 <| And.intro @Try.underlying3 <| And.intro @Try.underlying4 <| And.intro @Try.underlying5 <| And.intro @Try.underlying9 <| And.intro @Try.underlying23 <| And.intro @Try.underlying24 <| And.intro @Try.underlying26 <| And.intro @Try.underlying27 <| And.intro @Try.underlying29 <| And.intro @Try.underlying30 <| And.intro @Try.underlying33 <| And.intro @Try.underlying34 <| And.intro @Try.underlying38 <| And.intro @Try.underlying40 <| And.intro @Try.underlying43 <| And.intro @Try.underlying45 <| And.intro @Try.underlying47 <| And.intro @Try.underlying49 <| And.intro @Try.underlying51 <| And.intro @Try.underlying55 <| And.intro @Try.underlying56 <| And.intro @Try.underlying59 <| And.intro @Try.underlying74 <| And.intro @Try.underlying85 <| And.intro @Try.underlying98 <| And.intro @Try.underlying101 <| And.intro @Try.underlying108 <| And.intro @Try.underlying112 <| And.intro @Try.underlying122 <| And.intro @Try.underlying127 <| And.intro @Try.underlying129 <| And.intro @Try.underlying144 <| And.intro @Try.underlying149 <| And.intro @bu29_0_1 <| And.intro @ze29 <| And.intro @sz29 <| And.intro @bs27_5 <| And.intro @ty29 <| And.intro @bs27_1 <| And.intro @bs27_2 <| And.intro @bs33_5 <| And.intro @bs27_7 <| And.intro @bs33_4 <| And.intro @bu38_0_1 <| And.intro @bs33_2 <| And.intro @ps40 <| And.intro @bs27_4 <| And.intro @ze51 <| And.intro @sz51 <| And.intro @bu29_0 <| And.intro @bs30_5 <| And.intro @bs30_4 <| And.intro @bs30_2 <| And.intro @bu58 <| And.intro @bs59_2 <| And.intro @ia59 <| And.intro @ty40 <| And.intro @ty51 <| And.intro @bu51 <| And.intro @bu38_0_1_2 <| And.intro @ze38 <| And.intro @sz38 <| And.intro @ty38 <| And.intro @ia33 <| And.intro @ty27 <| And.intro @fa51_0 <| And.intro @ty3 <| And.intro @fa51_1 <| And.intro @ty4 <| And.intro @fa51_3 <| And.intro @fa51_2 <| And.intro @fa45_2 <| And.intro @ty26 <| And.intro @bs30_1 <| And.intro @ap30 <| And.intro @bs27_19 <| And.intro @ap27 <| And.intro @fa38_1 <| And.intro @ty9 <| And.intro @fa38_0 <| And.intro @fa38_2 <| And.intro @bu45_2 <| And.intro @fa29_0 <| And.intro @ty5 <| And.intro @ia56 <| And.intro @ty74 <| And.intro @ze74 <| And.intro @sz74 <| And.intro @bu58_0_1_12_11 <| And.intro @fa58_6 <| And.intro @sz56 <| And.intro @fa58_2 <| And.intro @ty55 <| And.intro @fa58_4 <| And.intro @ia30 <| And.intro @fa45_0 <| And.intro @ty43 <| And.intro @fa45_1 <| And.intro @fa45_3 <| And.intro @fa45_4 <| And.intro @fa45_5 <| And.intro @fa51_4 <| And.intro @ty47 <| And.intro @fa51_5 <| And.intro @ty49 <| And.intro @sz4 <| And.intro @fa58_3 <| And.intro @ty56 <| And.intro @fa58_10 <| And.intro @fa29_1 <| And.intro @fa29_2 <| And.intro @ty23 <| And.intro @fa29_3 <| And.intro @fa29_4 <| And.intro @fa29_5 <| And.intro @fa29_6 <| And.intro @fa29_7 <| And.intro @bs27_0 <| And.intro @ty45 <| And.intro @by27 <| And.intro @el27 <| And.intro @fa74_0 <| And.intro @fa74_1 <| And.intro @fa74_2 <| And.intro @fa74_3 <| And.intro @fa74_4 <| And.intro @bs85_5 <| And.intro @ia85 <| And.intro @fa74_7 <| And.intro @bs56_0 <| And.intro @ap56 <| And.intro @sz55 <| And.intro @fa58_0 <| And.intro @ty24 <| And.intro @ze47 <| And.intro @sz47 <| And.intro @bu51_0_1_4 <| And.intro @ia27 <| And.intro @bu51_0_1 <| And.intro @bu51_0 <| And.intro @fa58_5 <| And.intro @sz3 <| And.intro @fa58_7 <| And.intro @ze49 <| And.intro @sz49 <| And.intro @fa49_2 <| And.intro @fa49_1 <| And.intro @fa58_8 <| And.intro @bu51_0_1_5 <| And.intro @fa58_1 <| And.intro @fa47_1 <| And.intro @fa58_11 <| And.intro @bu51_0_1_3 <| And.intro @fa58_12 <| And.intro @sz9 <| And.intro @sz23 <| And.intro @sz5 <| And.intro @sz27 <| And.intro @sz26 <| And.intro @ze45 <| And.intro @sz45 <| And.intro @bu51_0_1_2 <| And.intro @bu47 <| And.intro @bu114_0 <| And.intro @fa114_1 <| And.intro @ty34 <| And.intro @fa114_0 <| And.intro @sz34 <| And.intro @bu49_0_1_2 <| And.intro @fa49_3 <| And.intro @bu49 <| And.intro @fa58_9 <| And.intro @ia101 <| And.intro @ty122 <| And.intro @ze122 <| And.intro @sz122 <| And.intro @ze27 <| And.intro @fa122_0 <| And.intro @bu129 <| And.intro @bs98_1 <| And.intro @ap98 <| And.intro @ze129 <| And.intro @sz129 <| And.intro @ty129 <| And.intro @fa74_8 <| And.intro @bu122_0_1 <| And.intro @bu129_0_3 <| And.intro @bu38_0 <| And.intro @bu38 <| And.intro @ty108 <| And.intro @ze108 <| And.intro @bu108_0_1_2_3_4_5_6_7_8_9_10_11_12_13_15_16_245_246_247_248_249_250_251_252_253_254_255 <| And.intro @sz108 <| And.intro @bu45_0_1_2_3 <| And.intro @bu45 <| And.intro @bu47_0_1 <| And.intro @bs56_1 <| And.intro @fa122_1 <| And.intro @ze127 <| And.intro @sz127 <| And.intro @ty127 <| And.intro @bu129_0_4 <| And.intro @bu129_0_1 <| And.intro @bu129_0_2 <| And.intro @bu146_0 <| And.intro @bs149_5 <| And.intro @ia149 <| And.intro @ty148 <| And.intro @fa74_5 <| And.intro @fa74_6 <| And.intro @fa74_9 <| And.intro @fa146_0 <| And.intro @fa146_1 <| And.intro @bu74 <| And.intro @bs30_3 <| And.intro @bu127_0_3_4_5_6_7 <| And.intro @bu127_1_2_3_4_5_6_7 <| And.intro @bu127 <| And.intro @fa127_1 <| And.intro @fa127_2 <| And.intro @fa127_3 <| And.intro @fa127_0 <| And.intro @bu127_0 <| And.intro @bu127_1_2_3 <| And.intro @fa127_4 <| And.intro @fa127_5 <| And.intro @fa127_6 <| @fa127_7
end
end Go.Proofs.Ytinbhlejofgomaa
set_option linter.unusedSectionVars false
set_option maxRecDepth 10000
set_option maxHeartbeats 1000000
namespace Go.Proofs.Ytinbhlejofgomaa
open Int (reduceLE reduceLT reduceToNat)
open Nat (reduceLeDiff reduceEqDiff reduceAdd)
open Go.Proofs Go.Lx Go.Wx Go.IntWalk
noncomputable section
structure Set0 where
  exts : List (FuncId × (List V → M V))
  gl : T (List V)
noncomputable def Set0.cfg (S : Set0) : Cfg := { P := Try.prog, lf := 0, gl := S.gl, sum := sums S.exts }
structure StdB (S : Set0) : Prop where
  ownB : ∀ f, f ∈ [87, 70, 82, 25, 86, 89, 83, 75, 85, 69, 84, 76, 46, 44, 67, 49] → sums S.exts f = none
  bidx : sums S.exts 94 = some idxM
theorem cfgP (S : Set0) : S.cfg.P = Try.prog := rfl
section
variable {c : Cfg} {Ok : Nat → Prop} {env : Env} {h : H} {K : V → H → Fp → Prop}
theorem gOp_no {op : Op} : gOp c Ok False op env h K = K undefV h (.lg []) := by unfold gOp; simp
theorem gOp_yes {op : Op} : gOp c Ok True op env h K = opW c Ok op env h K := by unfold gOp; simp
end
noncomputable def facts := And.intro @cfgP <| And.intro @factsT <| And.intro @gOp_no @gOp_yes
noncomputable def Knx := And.intro @push_nx <| And.intro @put_nx @del_nx
noncomputable def K3 := And.intro @clsL.eq_1 <| And.intro @clsL.eq_2 <| And.intro @clsL.eq_3 <| And.intro @clsS.eq_1 <| And.intro @clsS.eq_2 <| And.intro @clsC.eq_1 <| And.intro @clsC.eq_2 @clsC.eq_3
noncomputable def fq := And.intro @facts <| And.intro @K3 <| And.intro @isPtrD.eq_1 @isPtrD.eq_2
noncomputable def fW := And.intro @facts <| And.intro @wpb <| And.intro @cst <| And.intro @wpk <| And.intro @wpl <| And.intro @forall_const.{0} <| And.intro @forall_const.{1} <| And.intro @implies_true.{0} <| And.intro @implies_true.{1} <| And.intro @false_implies @K3
theorem ubs : Try.prog.underlying 27 = some (.slice 5) := by kernel_rfl
theorem szb : szT Try.prog 5 = some 1 := by kernel_rfl
theorem n40 : ((4 : Int) = 0) = False := by decide
theorem n50 : ((5 : Int) = 0) = False := by decide
variable {S : Set0} (hS : StdB S)
include hS
theorem rfx_spec {v : V} {l : List Nat} {h : H} (a : BS 5 h v l) (hl : l.length < 2 ^ 62) (n : Nat) (hn : 1 ≤ n ∧ n ≤ 8) : Exact S.cfg 87 [v, .int .i64 n] h (.tuple [.int .u64 (if l.length < n then 0 else rdX l n), .int .i64 (if l.length < n then 4 else 0)]) := by
  refine into Try.f87 _ Try.func87 (hS.ownB _ (by decide)) rfl rfl (by kernel_rfl) (by kernel_rfl) ?_
  have a1 := a.len 5
  have n1 : ¬ n < 1 := by omega
  have n2 : ¬ 8 < n := by omega
  by_cases h1 : l.length < n
  · rw [if_pos h1, if_pos h1]
    simp +contextual (disch := first | (simp only [fq]; done) | omega | (simp only [Knx]; omega) | (apply Nat.le_antisymm <;> simp only [Knx] <;> omega) | fail) only [wpy, fW, reduceLE, reduceLT, reduceLeDiff, UInt8.reduceToNat, ↓reduceIte, reduceEqDiff, reduceAdd, reduceCtorEq, reduceToNat, Try.f87, a1, h1, n1, n2]
  rw [if_neg h1, if_neg h1]
  obtain ⟨b, o, m, rfl, _, _⟩ := a.at (i := 0) (by omega)
  obtain ⟨_, hb, hrd⟩ := a.rd
  simp +contextual (disch := first | (simp only [fq]; done) | omega | (simp only [Knx]; omega) | (apply Nat.le_antisymm <;> simp only [Knx] <;> omega) | fail) only [wpy, fW, reduceLE, reduceLT, reduceLeDiff, UInt8.reduceToNat, ↓reduceIte, reduceEqDiff, reduceAdd, reduceCtorEq, reduceToNat, Try.f87, a1, h1, n1, n2]
  refine run_loop (fun k env h' => ∃ i : Nat, k = n - i ∧ i ≤ n ∧ env 0 = .slice b o l.length m ∧ env 18 = .int .i64 n ∧ env 19 = .int .i64 i ∧ env 6 = .int .u64 (rdX l i) ∧ h' = h) n ⟨0, ?_⟩ ?_
  · simp +contextual (disch := first | (simp only [fq]; done) | omega | (simp only [Knx]; omega) | (apply Nat.le_antisymm <;> simp only [Knx] <;> omega) | fail) only [wpy, fW, reduceLE, reduceLT, reduceLeDiff, UInt8.reduceToNat, ↓reduceIte, reduceEqDiff, reduceAdd, reduceCtorEq, reduceToNat]
    exact ⟨rfl, rfl⟩
  rintro k env h' ⟨i, rfl, hi, e0, e18, e19, e6, rfl⟩
  by_cases hin : i < n
  · have hr := hrd i (by omega)
    have hby := byI_in a.1 i
    have hil : i < l.length := by omega
    have w1 : IntKind.i64.wrap (8 * (i : Int)) = 8 * (i : Int) := i64_in _ (by omega)
    have w2 : ¬ (8 * (i : Int) < 0) := by omega
    have w3 : IntKind.u64.wrap (byI l i) = byI l i := u64_in _ (by omega)
    simp +contextual (disch := first | (simp only [fq]; done) | omega | (simp only [Knx]; omega) | (apply Nat.le_antisymm <;> simp only [Knx] <;> omega) | fail) only [wpy, fW, reduceLE, reduceLT, reduceLeDiff, UInt8.reduceToNat, ↓reduceIte, reduceEqDiff, reduceAdd, reduceCtorEq, reduceToNat, Try.f87, e0, e18, e19, e6, hin, hil, hr, w1, w2, w3]
    exact ⟨_, by omega, i + 1, rfl, by omega, rfl, rfl⟩
  · obtain rfl : i = n := by omega
    simp +contextual (disch := first | (simp only [fq]; done) | omega | (simp only [Knx]; omega) | (apply Nat.le_antisymm <;> simp only [Knx] <;> omega) | fail) only [wpy, fW, reduceLE, reduceLT, reduceLeDiff, UInt8.reduceToNat, ↓reduceIte, reduceEqDiff, reduceAdd, reduceCtorEq, reduceToNat, Try.f87, e0, e18, e19, e6, hin]
theorem rin_spec {v : V} {l : List Nat} {h : H} (a : BS 5 h v l) (hl : l.length < 2 ^ 62) : Exact S.cfg 70 [v] h (.tuple [.int .u64 (iiF l).1, .int .i64 ((iiF l).2.1 : Nat), .int .i64 (iiF l).2.2]) := by
  refine into Try.f70 _ Try.func70 (hS.ownB _ (by decide)) rfl rfl (by kernel_rfl) (by kernel_rfl) ?_
  have a1 := a.len 5
  by_cases h0 : l.length = 0
  · have e : iiF l = (0, 0, 4) := by unfold iiF; rw [if_pos h0]
    rw [e]
    simp +contextual (disch := first | (simp only [fq]; done) | omega | (simp only [Knx]; omega) | (apply Nat.le_antisymm <;> simp only [Knx] <;> omega) | fail) only [wpy, fW, reduceLE, reduceLT, reduceLeDiff, UInt8.reduceToNat, ↓reduceIte, reduceEqDiff, reduceAdd, reduceCtorEq, reduceToNat, Try.f70, a1, h0]
    rfl
  obtain ⟨b, o, m, rfl, _, _⟩ := a.at (i := 0) (by omega)
  obtain ⟨_, hb, hrd⟩ := a.rd
  have hr := hrd 0 (by omega)
  rw [Nat.add_zero] at hr
  have hby := byI_in a.1 0
  have hl0 : 0 < l.length := by omega
  have w3 : IntKind.u64.wrap (byI l 0) = byI l 0 := u64_in _ (by omega)
  by_cases h1 : byI l 0 ≤ 250
  · have e : iiF l = (byI l 0, 1, 0) := by unfold iiF; rw [if_neg h0, if_pos h1]
    have n1 : ¬ byI l 0 = 252 := by omega
    have n2 : ¬ byI l 0 = 253 := by omega
    have n3 : ¬ byI l 0 = 254 := by omega
    have n4 : ¬ byI l 0 = 251 := by omega
    have n5 : ¬ byI l 0 = 255 := by omega
    rw [e]
    simp +contextual (disch := first | (simp only [fq]; done) | omega | (simp only [Knx]; omega) | (apply Nat.le_antisymm <;> simp only [Knx] <;> omega) | fail) only [wpy, fW, reduceLE, reduceLT, reduceLeDiff, UInt8.reduceToNat, ↓reduceIte, reduceEqDiff, reduceAdd, reduceCtorEq, reduceToNat, Try.f70, a1, h0, hl0, hr, w3, n1, n2, n3, n4, n5]
    rfl
  by_cases h2 : byI l 0 = 251 ∨ byI l 0 = 255
  · have e : iiF l = (0, 0, 5) := by unfold iiF; rw [if_neg h0, if_neg h1, if_pos h2]
    have n1 : ¬ byI l 0 = 252 := by omega
    have n2 : ¬ byI l 0 = 253 := by omega
    have n3 : ¬ byI l 0 = 254 := by omega
    rw [e]
    rcases h2 with h2 | h2
    · have h2 := eq_true h2
      simp +contextual (disch := first | (simp only [fq]; done) | omega | (simp only [Knx]; omega) | (apply Nat.le_antisymm <;> simp only [Knx] <;> omega) | fail) only [wpy, fW, reduceLE, reduceLT, reduceLeDiff, UInt8.reduceToNat, ↓reduceIte, reduceEqDiff, reduceAdd, reduceCtorEq, reduceToNat, Try.f70, a1, h0, hl0, hr, w3, n1, n2, n3, h2]
      rfl
    · have n4 : ¬ byI l 0 = 251 := by omega
      have h2 := eq_true h2
      simp +contextual (disch := first | (simp only [fq]; done) | omega | (simp only [Knx]; omega) | (apply Nat.le_antisymm <;> simp only [Knx] <;> omega) | fail) only [wpy, fW, reduceLE, reduceLT, reduceLeDiff, UInt8.reduceToNat, ↓reduceIte, reduceEqDiff, reduceAdd, reduceCtorEq, reduceToNat, Try.f70, a1, h0, hl0, hr, w3, n1, n2, n3, n4, h2]
      rfl
  have hs := iiS_in (byI l 0)
  have hd : (l.drop 1).length = l.length - 1 := List.length_drop
  have key : ∀ n : Nat, iiS (byI l 0) = n → iiF l = if l.length - 1 < n then (0, 0, 4) else (rdX (l.drop 1) n, n + 1, 0) := fun n hn => by
    unfold iiF; rw [if_neg h0, if_neg h1, if_neg h2, hn]
  by_cases c1 : byI l 0 = 252
  · rw [key 2 (by unfold iiS; rw [if_pos c1])]
    have c1 := eq_true c1
    simp +contextual (disch := first | (simp only [fq]; done) | omega | (simp only [Knx]; omega) | (apply Nat.le_antisymm <;> simp only [Knx] <;> omega) | fail) only [wpy, fW, reduceLE, reduceLT, reduceLeDiff, UInt8.reduceToNat, ↓reduceIte, reduceEqDiff, reduceAdd, reduceCtorEq, reduceToNat, Try.f70, a1, h0, hl0, hr, w3, c1]
    refine drop_bs (i := 1) a ubs szb (by simp +contextual (disch := first | (simp only [fq]; done) | omega | (simp only [Knx]; omega) | (apply Nat.le_antisymm <;> simp only [Knx] <;> omega) | fail) only [wpy, fW, reduceLE, reduceLT, reduceLeDiff, UInt8.reduceToNat, ↓reduceIte, reduceEqDiff, reduceAdd, reduceCtorEq, reduceToNat]) (by simp +contextual (disch := first | (simp only [fq]; done) | omega | (simp only [Knx]; omega) | (apply Nat.le_antisymm <;> simp only [Knx] <;> omega) | fail) only [wpy, fW, reduceLE, reduceLT, reduceLeDiff, UInt8.reduceToNat, ↓reduceIte, reduceEqDiff, reduceAdd, reduceCtorEq, reduceToNat]) hl0 fun w L hw _ _ => ?_
    simp +contextual (disch := first | (simp only [fq]; done) | omega | (simp only [Knx]; omega) | (apply Nat.le_antisymm <;> simp only [Knx] <;> omega) | fail) only [wpy, fW, reduceLE, reduceLT, reduceLeDiff, UInt8.reduceToNat, ↓reduceIte, reduceEqDiff, reduceAdd, reduceCtorEq, reduceToNat, Try.f70]
    refine callF_exact (rfx_spec hS hw (by rw [hd]; omega) 2 (by omega)) ?_
    rw [hd]
    by_cases h5 : l.length - 1 < 2
    · rw [if_pos h5]; simp +contextual (disch := first | (simp only [fq]; done) | omega | (simp only [Knx]; omega) | (apply Nat.le_antisymm <;> simp only [Knx] <;> omega) | fail) only [wpy, fW, reduceLE, reduceLT, reduceLeDiff, UInt8.reduceToNat, ↓reduceIte, reduceEqDiff, reduceAdd, reduceCtorEq, reduceToNat, Try.f70, h5, n40]; rfl
    · rw [if_neg h5]; simp +contextual (disch := first | (simp only [fq]; done) | omega | (simp only [Knx]; omega) | (apply Nat.le_antisymm <;> simp only [Knx] <;> omega) | fail) only [wpy, fW, reduceLE, reduceLT, reduceLeDiff, UInt8.reduceToNat, ↓reduceIte, reduceEqDiff, reduceAdd, reduceCtorEq, reduceToNat, Try.f70, h5]; rfl
  by_cases c2 : byI l 0 = 253
  · rw [key 3 (by unfold iiS; rw [if_neg c1, if_pos c2])]
    have c2 := eq_true c2
    simp +contextual (disch := first | (simp only [fq]; done) | omega | (simp only [Knx]; omega) | (apply Nat.le_antisymm <;> simp only [Knx] <;> omega) | fail) only [wpy, fW, reduceLE, reduceLT, reduceLeDiff, UInt8.reduceToNat, ↓reduceIte, reduceEqDiff, reduceAdd, reduceCtorEq, reduceToNat, Try.f70, a1, h0, hl0, hr, w3, c1, c2]
    refine drop_bs (i := 1) a ubs szb (by simp +contextual (disch := first | (simp only [fq]; done) | omega | (simp only [Knx]; omega) | (apply Nat.le_antisymm <;> simp only [Knx] <;> omega) | fail) only [wpy, fW, reduceLE, reduceLT, reduceLeDiff, UInt8.reduceToNat, ↓reduceIte, reduceEqDiff, reduceAdd, reduceCtorEq, reduceToNat]) (by simp +contextual (disch := first | (simp only [fq]; done) | omega | (simp only [Knx]; omega) | (apply Nat.le_antisymm <;> simp only [Knx] <;> omega) | fail) only [wpy, fW, reduceLE, reduceLT, reduceLeDiff, UInt8.reduceToNat, ↓reduceIte, reduceEqDiff, reduceAdd, reduceCtorEq, reduceToNat]) hl0 fun w L hw _ _ => ?_
    simp +contextual (disch := first | (simp only [fq]; done) | omega | (simp only [Knx]; omega) | (apply Nat.le_antisymm <;> simp only [Knx] <;> omega) | fail) only [wpy, fW, reduceLE, reduceLT, reduceLeDiff, UInt8.reduceToNat, ↓reduceIte, reduceEqDiff, reduceAdd, reduceCtorEq, reduceToNat, Try.f70]
    refine callF_exact (rfx_spec hS hw (by rw [hd]; omega) 3 (by omega)) ?_
    rw [hd]
    by_cases h5 : l.length - 1 < 3
    · rw [if_pos h5]; simp +contextual (disch := first | (simp only [fq]; done) | omega | (simp only [Knx]; omega) | (apply Nat.le_antisymm <;> simp only [Knx] <;> omega) | fail) only [wpy, fW, reduceLE, reduceLT, reduceLeDiff, UInt8.reduceToNat, ↓reduceIte, reduceEqDiff, reduceAdd, reduceCtorEq, reduceToNat, Try.f70, h5, n40]; rfl
    · rw [if_neg h5]; simp +contextual (disch := first | (simp only [fq]; done) | omega | (simp only [Knx]; omega) | (apply Nat.le_antisymm <;> simp only [Knx] <;> omega) | fail) only [wpy, fW, reduceLE, reduceLT, reduceLeDiff, UInt8.reduceToNat, ↓reduceIte, reduceEqDiff, reduceAdd, reduceCtorEq, reduceToNat, Try.f70, h5]; rfl
  have c3 : byI l 0 = 254 := by omega
  · rw [key 8 (by unfold iiS; rw [if_neg c1, if_neg c2])]
    have c3 := eq_true c3
    simp +contextual (disch := first | (simp only [fq]; done) | omega | (simp only [Knx]; omega) | (apply Nat.le_antisymm <;> simp only [Knx] <;> omega) | fail) only [wpy, fW, reduceLE, reduceLT, reduceLeDiff, UInt8.reduceToNat, ↓reduceIte, reduceEqDiff, reduceAdd, reduceCtorEq, reduceToNat, Try.f70, a1, h0, hl0, hr, w3, c1, c2, c3]
    refine drop_bs (i := 1) a ubs szb (by simp +contextual (disch := first | (simp only [fq]; done) | omega | (simp only [Knx]; omega) | (apply Nat.le_antisymm <;> simp only [Knx] <;> omega) | fail) only [wpy, fW, reduceLE, reduceLT, reduceLeDiff, UInt8.reduceToNat, ↓reduceIte, reduceEqDiff, reduceAdd, reduceCtorEq, reduceToNat]) (by simp +contextual (disch := first | (simp only [fq]; done) | omega | (simp only [Knx]; omega) | (apply Nat.le_antisymm <;> simp only [Knx] <;> omega) | fail) only [wpy, fW, reduceLE, reduceLT, reduceLeDiff, UInt8.reduceToNat, ↓reduceIte, reduceEqDiff, reduceAdd, reduceCtorEq, reduceToNat]) hl0 fun w L hw _ _ => ?_
    simp +contextual (disch := first | (simp only [fq]; done) | omega | (simp only [Knx]; omega) | (apply Nat.le_antisymm <;> simp only [Knx] <;> omega) | fail) only [wpy, fW, reduceLE, reduceLT, reduceLeDiff, UInt8.reduceToNat, ↓reduceIte, reduceEqDiff, reduceAdd, reduceCtorEq, reduceToNat, Try.f70]
    refine callF_exact (rfx_spec hS hw (by rw [hd]; omega) 8 (by omega)) ?_
    rw [hd]
    by_cases h5 : l.length - 1 < 8
    · rw [if_pos h5]; simp +contextual (disch := first | (simp only [fq]; done) | omega | (simp only [Knx]; omega) | (apply Nat.le_antisymm <;> simp only [Knx] <;> omega) | fail) only [wpy, fW, reduceLE, reduceLT, reduceLeDiff, UInt8.reduceToNat, ↓reduceIte, reduceEqDiff, reduceAdd, reduceCtorEq, reduceToNat, Try.f70, h5, n40]; rfl
    · rw [if_neg h5]; simp +contextual (disch := first | (simp only [fq]; done) | omega | (simp only [Knx]; omega) | (apply Nat.le_antisymm <;> simp only [Knx] <;> omega) | fail) only [wpy, fW, reduceLE, reduceLT, reduceLeDiff, UInt8.reduceToNat, ↓reduceIte, reduceEqDiff, reduceAdd, reduceCtorEq, reduceToNat, Try.f70, h5]; rfl
theorem rtx_spec {v : V} {l : List Nat} {h : H} (a : BS 5 h v l) (hl : l.length < 2 ^ 62) : Exact S.cfg 82 [v] h (.tuple [.str (txF l).1, .int .i64 ((txF l).2.1 : Nat), .int .i64 (txF l).2.2]) := by
  refine into Try.f82 _ Try.func82 (hS.ownB _ (by decide)) rfl rfl (by kernel_rfl) (by kernel_rfl) ?_
  have a1 := a.len 5
  have hi := iiF_ok a.1
  simp +contextual (disch := first | (simp only [fq]; done) | omega | (simp only [Knx]; omega) | (apply Nat.le_antisymm <;> simp only [Knx] <;> omega) | fail) only [wpy, fW, reduceLE, reduceLT, reduceLeDiff, UInt8.reduceToNat, ↓reduceIte, reduceEqDiff, reduceAdd, reduceCtorEq, reduceToNat, Try.f82]
  refine callF_exact (rin_spec hS a hl) ?_
  by_cases h0 : (iiF l).2.2 ≠ 0
  · have e : txF l = ([], 0, (iiF l).2.2) := by unfold txF; rw [if_pos h0]
    have h0' : ¬ (iiF l).2.2 = 0 := h0
    rw [e]
    simp +contextual (disch := first | (simp only [fq]; done) | omega | (simp only [Knx]; omega) | (apply Nat.le_antisymm <;> simp only [Knx] <;> omega) | fail) only [wpy, fW, reduceLE, reduceLT, reduceLeDiff, UInt8.reduceToNat, ↓reduceIte, reduceEqDiff, reduceAdd, reduceCtorEq, reduceToNat, Try.f82, h0']
    rfl
  have h0' : (iiF l).2.2 = 0 := Classical.not_not.1 h0
  obtain ⟨i1, i2, i3, i4, _⟩ := hi
  have i4 := i4 h0'
  have s1 : IntKind.i64.wrap ((l.length : Int) - ((iiF l).2.1 : Nat)) = ((l.length - (iiF l).2.1 : Nat) : Int) := by rw [i64_in _ (by omega)]; omega
  have s2 : IntKind.u64.wrap ((l.length - (iiF l).2.1 : Nat) : Int) = ((l.length - (iiF l).2.1 : Nat) : Int) := u64_in _ (by omega)
  by_cases h1 : ((l.length - (iiF l).2.1 : Nat) : Int) < (iiF l).1
  · have e : txF l = ([], 0, 4) := by unfold txF; rw [if_neg h0, if_pos h1]
    rw [e]
    simp +contextual (disch := first | (simp only [fq]; done) | omega | (simp only [Knx]; omega) | (apply Nat.le_antisymm <;> simp only [Knx] <;> omega) | fail) only [wpy, fW, reduceLE, reduceLT, reduceLeDiff, UInt8.reduceToNat, ↓reduceIte, reduceEqDiff, reduceAdd, reduceCtorEq, reduceToNat, Try.f82, h0', a1, s1, s2, h1]
    rfl
  have e : txF l = ((l.take ((iiF l).2.1 + (iiF l).1.toNat)).drop (iiF l).2.1, (iiF l).2.1 + (iiF l).1.toNat, 0) := by unfold txF; rw [if_neg h0, if_neg h1]
  rw [e]
  have s3 : IntKind.i64.wrap (iiF l).1 = (iiF l).1 := i64_in _ (by omega)
  have s4 : IntKind.i64.wrap (((iiF l).2.1 : Int) + (iiF l).1) = (((iiF l).2.1 + (iiF l).1.toNat : Nat) : Int) := by rw [i64_in _ (by omega)]; omega
  simp +contextual (disch := first | (simp only [fq]; done) | omega | (simp only [Knx]; omega) | (apply Nat.le_antisymm <;> simp only [Knx] <;> omega) | fail) only [wpy, fW, reduceLE, reduceLT, reduceLeDiff, UInt8.reduceToNat, ↓reduceIte, reduceEqDiff, reduceAdd, reduceCtorEq, reduceToNat, Try.f82, h0', a1, s1, s2, h1, s3, s4]
  refine mid_bs (i := (iiF l).2.1) (j := (iiF l).2.1 + (iiF l).1.toNat) a ubs szb (by simp +contextual (disch := first | (simp only [fq]; done) | omega | (simp only [Knx]; omega) | (apply Nat.le_antisymm <;> simp only [Knx] <;> omega) | fail) only [wpy, fW, reduceLE, reduceLT, reduceLeDiff, UInt8.reduceToNat, ↓reduceIte, reduceEqDiff, reduceAdd, reduceCtorEq, reduceToNat]) (by simp +contextual (disch := first | (simp only [fq]; done) | omega | (simp only [Knx]; omega) | (apply Nat.le_antisymm <;> simp only [Knx] <;> omega) | fail) only [wpy, fW, reduceLE, reduceLT, reduceLeDiff, UInt8.reduceToNat, ↓reduceIte, reduceEqDiff, reduceAdd, reduceCtorEq, reduceToNat]) (by simp +contextual (disch := first | (simp only [fq]; done) | omega | (simp only [Knx]; omega) | (apply Nat.le_antisymm <;> simp only [Knx] <;> omega) | fail) only [wpy, fW, reduceLE, reduceLT, reduceLeDiff, UInt8.reduceToNat, ↓reduceIte, reduceEqDiff, reduceAdd, reduceCtorEq, reduceToNat]) (by omega) (by omega) fun w L hw _ _ => ?_
  obtain ⟨L2, _, hc⟩ := hw.str
  simp +contextual (disch := first | (simp only [fq]; done) | omega | (simp only [Knx]; omega) | (apply Nat.le_antisymm <;> simp only [Knx] <;> omega) | fail) only [wpy, fW, reduceLE, reduceLT, reduceLeDiff, UInt8.reduceToNat, ↓reduceIte, reduceEqDiff, reduceAdd, reduceCtorEq, reduceToNat, Try.f82, hc, s3, s4]
end
noncomputable section
def RdR (t : TypeId) (n0 r : Nat) (R : Rd) (h h' : H) : Prop := RdS 5 t n0 r R h' ∧ But r h h'
variable {S : Set0} (hS : StdB S)
include hS
theorem step_spec {n0 r : Nat} {R : Rd} {h : H} (a : RdS 5 114 n0 r R h) (n : Nat) (e : Int) (hn : e = 0 → n ≤ R.bs.length) : callW S.cfg (· = r) 89 [.ptr r 0, .int .i64 n, .int .i64 e] h fun v h' => RdR 114 n0 r (if e ≠ 0 then ⟨R.bs, e⟩ else ⟨R.bs.drop n, R.e⟩) h h' := by
  refine into Try.f89 _ Try.func89 (hS.ownB _ (by decide)) rfl rfl (by kernel_rfl) (by kernel_rfl) ?_
  obtain ⟨⟨v, g, hb, ho⟩, hl⟩ := a
  obtain ⟨c1, c2⟩ := hb.cell
  by_cases he : e = 0
  · subst he
    simp +contextual (disch := first | (simp only [fq]; done) | omega | (simp only [Knx]; omega) | (apply Nat.le_antisymm <;> simp only [Knx] <;> omega) | fail) only [wpy, fW, reduceLE, reduceLT, reduceLeDiff, UInt8.reduceToNat, ↓reduceIte, reduceEqDiff, reduceAdd, reduceCtorEq, reduceToNat, Try.f89, g]
    refine drop_bs (i := n) hb ubs szb (by simp +contextual (disch := first | (simp only [fq]; done) | omega | (simp only [Knx]; omega) | (apply Nat.le_antisymm <;> simp only [Knx] <;> omega) | fail) only [wpy, fW, reduceLE, reduceLT, reduceLeDiff, UInt8.reduceToNat, ↓reduceIte, reduceEqDiff, reduceAdd, reduceCtorEq, reduceToNat]) (by simp +contextual (disch := first | (simp only [fq]; done) | omega | (simp only [Knx]; omega) | (apply Nat.le_antisymm <;> simp only [Knx] <;> omega) | fail) only [wpy, fW, reduceLE, reduceLT, reduceLeDiff, UInt8.reduceToNat, ↓reduceIte, reduceEqDiff, reduceAdd, reduceCtorEq, reduceToNat]) (hn rfl) fun w L hw ho2 _ => ?_
    obtain ⟨d1, d2⟩ := hw.cell
    simp +contextual (disch := first | (simp only [fq]; done) | omega | (simp only [Knx]; omega) | (apply Nat.le_antisymm <;> simp only [Knx] <;> omega) | fail) only [wpy, fW, reduceLE, reduceLT, reduceLeDiff, UInt8.reduceToNat, ↓reduceIte, reduceEqDiff, reduceAdd, reduceCtorEq, reduceToNat, Try.f89, g, d1, d2]
    exact ⟨RdS.put (R := ⟨R.bs.drop n, R.e⟩) hw (fun k hk => ho2 k (ho k hk)) hl, (But.refl r h).put _⟩
  · rw [if_pos he]
    simp +contextual (disch := first | (simp only [fq]; done) | omega | (simp only [Knx]; omega) | (apply Nat.le_antisymm <;> simp only [Knx] <;> omega) | fail) only [wpy, fW, reduceLE, reduceLT, reduceLeDiff, UInt8.reduceToNat, ↓reduceIte, reduceEqDiff, reduceAdd, reduceCtorEq, reduceToNat, Try.f89, g, he]
    exact ⟨RdS.put (R := ⟨R.bs, e⟩) hb ho hl, (But.refl r h).put _⟩
theorem fix_spec {n0 r : Nat} {R : Rd} {h : H} (a : RdS 5 114 n0 r R h) (hl : R.bs.length < 2 ^ 62) (n : Nat) (hn : 1 ≤ n ∧ n ≤ 8) : callW S.cfg (· = r) 75 [.ptr r 0, .int .i64 n] h fun v h' => v = .int .u64 (R.fix n).1 ∧ RdR 114 n0 r (R.fix n).2 h h' := by
  refine into Try.f75 _ Try.func75 (hS.ownB _ (by decide)) rfl rfl (by kernel_rfl) (by kernel_rfl) ?_
  have a' := a
  obtain ⟨⟨v, g, hb, ho⟩, hlt⟩ := a
  obtain ⟨c1, c2⟩ := hb.cell
  by_cases he : R.e ≠ 0
  · rw [Rd.fix_err n he]
    have he' : ¬ R.e = 0 := he
    simp +contextual (disch := first | (simp only [fq]; done) | omega | (simp only [Knx]; omega) | (apply Nat.le_antisymm <;> simp only [Knx] <;> omega) | fail) only [wpy, fW, reduceLE, reduceLT, reduceLeDiff, UInt8.reduceToNat, ↓reduceIte, reduceEqDiff, reduceAdd, reduceCtorEq, reduceToNat, Try.f75, g, he']
    exact ⟨a', But.refl r h⟩
  have he' : R.e = 0 := Classical.not_not.1 he
  simp +contextual (disch := first | (simp only [fq]; done) | omega | (simp only [Knx]; omega) | (apply Nat.le_antisymm <;> simp only [Knx] <;> omega) | fail) only [wpy, fW, reduceLE, reduceLT, reduceLeDiff, UInt8.reduceToNat, ↓reduceIte, reduceEqDiff, reduceAdd, reduceCtorEq, reduceToNat, Try.f75, g, he']
  refine callF_exact (rfx_spec hS hb hl n hn) ?_
  simp +contextual (disch := first | (simp only [fq]; done) | omega | (simp only [Knx]; omega) | (apply Nat.le_antisymm <;> simp only [Knx] <;> omega) | fail) only [wpy, fW, reduceLE, reduceLT, reduceLeDiff, UInt8.reduceToNat, ↓reduceIte, reduceEqDiff, reduceAdd, reduceCtorEq, reduceToNat, Try.f75, g]
  refine callF_of (step_spec hS a' n (if R.bs.length < n then 4 else 0) (fun q => by
    by_cases h5 : R.bs.length < n
    · rw [if_pos h5] at q; cases q
    · omega)) (fun k hk => .inr hk) ?_
  rintro w h' hr
  simp +contextual (disch := first | (simp only [fq]; done) | omega | (simp only [Knx]; omega) | (apply Nat.le_antisymm <;> simp only [Knx] <;> omega) | fail) only [wpy, fW, reduceLE, reduceLT, reduceLeDiff, UInt8.reduceToNat, ↓reduceIte, reduceEqDiff, reduceAdd, reduceCtorEq, reduceToNat, Try.f75]
  unfold Rd.fix
  rw [if_neg he]
  by_cases h5 : R.bs.length < n
  · rw [if_pos h5, if_pos h5]
    rw [if_pos h5, if_pos (by decide)] at hr
    exact ⟨rfl, hr⟩
  · rw [if_neg h5, if_neg h5]
    rw [if_neg h5, if_neg (by decide), he'] at hr
    exact ⟨rfl, hr⟩
theorem cnt_spec {n0 r : Nat} {R : Rd} {h : H} (a : RdS 5 114 n0 r R h) (hl : R.bs.length < 2 ^ 62) : callW S.cfg (· = r) 83 [.ptr r 0] h fun v h' => v = .int .u64 R.cnt.1 ∧ RdR 114 n0 r R.cnt.2 h h' := by
  refine into Try.f83 _ Try.func83 (hS.ownB _ (by decide)) rfl rfl (by kernel_rfl) (by kernel_rfl) ?_
  have a' := a
  obtain ⟨⟨v, g, hb, ho⟩, hlt⟩ := a
  obtain ⟨c1, c2⟩ := hb.cell
  by_cases he : R.e ≠ 0
  · rw [Rd.cnt_err he]
    have he' : ¬ R.e = 0 := he
    simp +contextual (disch := first | (simp only [fq]; done) | omega | (simp only [Knx]; omega) | (apply Nat.le_antisymm <;> simp only [Knx] <;> omega) | fail) only [wpy, fW, reduceLE, reduceLT, reduceLeDiff, UInt8.reduceToNat, ↓reduceIte, reduceEqDiff, reduceAdd, reduceCtorEq, reduceToNat, Try.f83, g, he']
    exact ⟨a', But.refl r h⟩
  have he' : R.e = 0 := Classical.not_not.1 he
  have hi := iiF_ok hb.1
  simp +contextual (disch := first | (simp only [fq]; done) | omega | (simp only [Knx]; omega) | (apply Nat.le_antisymm <;> simp only [Knx] <;> omega) | fail) only [wpy, fW, reduceLE, reduceLT, reduceLeDiff, UInt8.reduceToNat, ↓reduceIte, reduceEqDiff, reduceAdd, reduceCtorEq, reduceToNat, Try.f83, g, he']
  refine callF_exact (rin_spec hS hb hl) ?_
  simp +contextual (disch := first | (simp only [fq]; done) | omega | (simp only [Knx]; omega) | (apply Nat.le_antisymm <;> simp only [Knx] <;> omega) | fail) only [wpy, fW, reduceLE, reduceLT, reduceLeDiff, UInt8.reduceToNat, ↓reduceIte, reduceEqDiff, reduceAdd, reduceCtorEq, reduceToNat, Try.f83, g]
  refine callF_of (step_spec hS a' _ _ (fun q => hi.2.2.1)) (fun k hk => .inr hk) ?_
  rintro w h' hr
  simp +contextual (disch := first | (simp only [fq]; done) | omega | (simp only [Knx]; omega) | (apply Nat.le_antisymm <;> simp only [Knx] <;> omega) | fail) only [wpy, fW, reduceLE, reduceLT, reduceLeDiff, UInt8.reduceToNat, ↓reduceIte, reduceEqDiff, reduceAdd, reduceCtorEq, reduceToNat, Try.f83]
  unfold Rd.cnt
  rw [if_neg he]
  refine ⟨rfl, ?_⟩
  by_cases h5 : (iiF R.bs).2.2 = 0
  · rw [if_neg (fun q => q h5), he'] at hr
    show RdR _ _ _ ⟨_, _⟩ _ _
    rw [h5]; exact hr
  · rw [if_pos h5] at hr
    show RdR _ _ _ ⟨_, _⟩ _ _
    rw [(hi.2.2.2.2.1 h5).2, List.drop_zero]; exact hr
theorem txt_spec {n0 r : Nat} {R : Rd} {h : H} (a : RdS 5 114 n0 r R h) (hl : R.bs.length < 2 ^ 62) : callW S.cfg (· = r) 85 [.ptr r 0] h fun v h' => v = .str R.txt.1 ∧ RdR 114 n0 r R.txt.2 h h' := by
  refine into Try.f85 _ Try.func85 (hS.ownB _ (by decide)) rfl rfl (by kernel_rfl) (by kernel_rfl) ?_
  have a' := a
  obtain ⟨⟨v, g, hb, ho⟩, hlt⟩ := a
  obtain ⟨c1, c2⟩ := hb.cell
  by_cases he : R.e ≠ 0
  · rw [Rd.txt_err he]
    have he' : ¬ R.e = 0 := he
    simp +contextual (disch := first | (simp only [fq]; done) | omega | (simp only [Knx]; omega) | (apply Nat.le_antisymm <;> simp only [Knx] <;> omega) | fail) only [wpy, fW, reduceLE, reduceLT, reduceLeDiff, UInt8.reduceToNat, ↓reduceIte, reduceEqDiff, reduceAdd, reduceCtorEq, reduceToNat, Try.f85, g, he']
    exact ⟨a', But.refl r h⟩
  have he' : R.e = 0 := Classical.not_not.1 he
  have hi := txF_ok hb.1
  simp +contextual (disch := first | (simp only [fq]; done) | omega | (simp only [Knx]; omega) | (apply Nat.le_antisymm <;> simp only [Knx] <;> omega) | fail) only [wpy, fW, reduceLE, reduceLT, reduceLeDiff, UInt8.reduceToNat, ↓reduceIte, reduceEqDiff, reduceAdd, reduceCtorEq, reduceToNat, Try.f85, g, he']
  refine callF_exact (rtx_spec hS hb hl) ?_
  simp +contextual (disch := first | (simp only [fq]; done) | omega | (simp only [Knx]; omega) | (apply Nat.le_antisymm <;> simp only [Knx] <;> omega) | fail) only [wpy, fW, reduceLE, reduceLT, reduceLeDiff, UInt8.reduceToNat, ↓reduceIte, reduceEqDiff, reduceAdd, reduceCtorEq, reduceToNat, Try.f85, g]
  refine callF_of (step_spec hS a' _ _ (fun q => hi.1)) (fun k hk => .inr hk) ?_
  rintro w h' hr
  simp +contextual (disch := first | (simp only [fq]; done) | omega | (simp only [Knx]; omega) | (apply Nat.le_antisymm <;> simp only [Knx] <;> omega) | fail) only [wpy, fW, reduceLE, reduceLT, reduceLeDiff, UInt8.reduceToNat, ↓reduceIte, reduceEqDiff, reduceAdd, reduceCtorEq, reduceToNat, Try.f85]
  unfold Rd.txt
  rw [if_neg he]
  refine ⟨rfl, ?_⟩
  by_cases h5 : (txF R.bs).2.2 = 0
  · rw [if_neg (fun q => q h5), he'] at hr
    show RdR _ _ _ ⟨_, _⟩ _ _
    rw [h5]; exact hr
  · rw [if_pos h5] at hr
    show RdR _ _ _ ⟨_, _⟩ _ _
    rw [(hi.2.1 h5).2, List.drop_zero]; exact hr
omit hS in
theorem nice_idxM (vs : List V) : Nice (idxM vs) := by
  unfold idxM
  repeat' (first | exact Nice.ret _ | exact Nice.err _ | exact Nice.ld _ _ _ | exact Nice.opt _ _ | refine Nice.cond ?_ ?_ | refine Nice.bnd ?_ (fun _ => ?_) | split)
omit hS in
theorem bytesOfV_bytes : ∀ {l : List Nat}, (∀ x ∈ l, x < 256) → bytesOfV (bytesV l) = some l
  | [], _ => rfl
  | x :: l, h => by
    have ih := bytesOfV_bytes (l := l) fun y hy => h y (.tail _ hy)
    have hx := h x (.head _)
    show (match byteV (.int .u8 (x : Nat)), bytesOfV (bytesV l) with
      | some n, some ns => some (n :: ns)
      | _, _ => none) = _
    have e : byteV (.int .u8 (x : Nat)) = some x := by
      have q : (x : Int) < 256 := by omega
      simp [byteV, q]
    rw [ih, e]
theorem aidx_spec {v : V} {l : List Nat} {h : H} (a : BS 5 h v l) (c : Int) (hc : 0 ≤ c ∧ c < 256) : Exact S.cfg 94 [v, .int .u8 c] h (.int .i64 (idxNats l c.toNat)) := by
  rcases a.2 with ⟨rfl, rfl⟩ | ⟨b, o, m, rfl, h1, h2, h3, h4⟩
  · exact callW_sum (s := h.st) hS.bidx (nice_idxM _) rfl LogOk_nil ⟨rfl, rfl⟩
  · refine callW_sum (s := ⟨h.heap, h.nx, [.rd b o l.length]⟩) hS.bidx (nice_idxM _) ?_ ?_ ⟨rfl, rfl⟩
    · show (bif decide (0 ≤ c) && decide (c < 256) then Lx.bnd (Lx.ld b o l.length) fun cs => Lx.bnd (Lx.opt (bytesOfV cs) "bytes") fun ns => Lx.ret (V.int .i64 (idxNats ns c.toNat)) else err "byte") ⟨h.heap, h.nx, []⟩ = _
      rw [show (decide (0 ≤ c) && decide (c < 256)) = true by simp [hc], cond_true, bnd_eq (ld_rdC (s := ⟨h.heap, h.nx, []⟩) h3), bytesOfV_bytes a.1]
      rfl
    · rw [LogOk_cons_rd]
      exact LogOk_nil
theorem bidx_spec {v : V} {l : List Nat} {h : H} (a : BS 5 h v l) (c : Int) (hc : 0 ≤ c ∧ c < 256) : Exact S.cfg 86 [v, .int .u8 c] h (.int .i64 (idxNats l c.toNat)) := by
  refine into Try.f86 _ Try.func86 (hS.ownB _ (by decide)) rfl rfl (by kernel_rfl) (by kernel_rfl) ?_
  simp +contextual (disch := first | (simp only [fq]; done) | omega | (simp only [Knx]; omega) | (apply Nat.le_antisymm <;> simp only [Knx] <;> omega) | fail) only [wpy, fW, reduceLE, reduceLT, reduceLeDiff, UInt8.reduceToNat, ↓reduceIte, reduceEqDiff, reduceAdd, reduceCtorEq, reduceToNat, Try.f86]
  refine callF_exact (aidx_spec hS a c hc) ?_
  simp +contextual (disch := first | (simp only [fq]; done) | omega | (simp only [Knx]; omega) | (apply Nat.le_antisymm <;> simp only [Knx] <;> omega) | fail) only [wpy, fW, reduceLE, reduceLT, reduceLeDiff, UInt8.reduceToNat, ↓reduceIte, reduceEqDiff, reduceAdd, reduceCtorEq, reduceToNat, Try.f86]
def mustF (R : Rd) (ls : List Nat) : Rd := (R.fix 1).2.bad (idxNats ls (IntKind.u8.wrap (R.fix 1).1).toNat < 0)
omit hS in
theorem u8_wrap_in (n : Int) : 0 ≤ IntKind.u8.wrap n ∧ IntKind.u8.wrap n < 256 := by
  rw [IntKind.wrap_u8]; omega
theorem must_spec {n0 r : Nat} {R : Rd} {h : H} (a : RdS 5 114 n0 r R h) (hl : R.bs.length < 2 ^ 62) {vl : V} {ls : List Nat} (al : BS 5 h vl ls) (ho : Off vl r) : callW S.cfg (· = r) 69 [.ptr r 0, vl] h fun v h' => RdR 114 n0 r (mustF R ls) h h' := by
  refine into Try.f69 _ Try.func69 (hS.ownB _ (by decide)) rfl rfl (by kernel_rfl) (by kernel_rfl) ?_
  simp +contextual (disch := first | (simp only [fq]; done) | omega | (simp only [Knx]; omega) | (apply Nat.le_antisymm <;> simp only [Knx] <;> omega) | fail) only [wpy, fW, reduceLE, reduceLT, reduceLeDiff, UInt8.reduceToNat, ↓reduceIte, reduceEqDiff, reduceAdd, reduceCtorEq, reduceToNat, Try.f69]
  refine callF_of (fix_spec hS a hl 1 (by omega)) (fun k hk => .inr hk) ?_
  rintro w h1 ⟨rfl, a1, b1⟩
  have hu := u8_wrap_in (R.fix 1).1
  have al1 : BS 5 h1 vl ls := al.keep b1.1 fun k hk ⟨o, n, m, q⟩ => b1.2 k hk fun e => ho o n m (by rw [← e]; exact q)
  obtain ⟨⟨v, g, hb, ho1⟩, hlt⟩ := a1
  have a1 : RdS 5 114 n0 r (R.fix 1).2 h1 := ⟨⟨v, g, hb, ho1⟩, hlt⟩
  simp +contextual (disch := first | (simp only [fq]; done) | omega | (simp only [Knx]; omega) | (apply Nat.le_antisymm <;> simp only [Knx] <;> omega) | fail) only [wpy, fW, reduceLE, reduceLT, reduceLeDiff, UInt8.reduceToNat, ↓reduceIte, reduceEqDiff, reduceAdd, reduceCtorEq, reduceToNat, Try.f69, g]
  refine gCall_exact (first := []) (cap := []) (fun _ => bidx_spec hS al1 _ hu) fun fp => ?_
  by_cases hq : (R.fix 1).2.e = 0 ∧ idxNats ls (IntKind.u8.wrap (R.fix 1).1).toNat < 0
  · have q1 := eq_true hq.1
    have q2 := hq.2
    have e : mustF R ls = ⟨(R.fix 1).2.bs, 5⟩ := Rd.bad_yes hq
    rw [e]
    simp +contextual (disch := first | (simp only [fq]; done) | omega | (simp only [Knx]; omega) | (apply Nat.le_antisymm <;> simp only [Knx] <;> omega) | fail) only [wpy, fW, reduceLE, reduceLT, reduceLeDiff, UInt8.reduceToNat, ↓reduceIte, reduceEqDiff, reduceAdd, reduceCtorEq, reduceToNat, Try.f69, g, q1, q2]
    exact ⟨RdS.put (R := ⟨(R.fix 1).2.bs, 5⟩) hb ho1 hlt, b1.put _⟩
  · have e : mustF R ls = (R.fix 1).2 := Rd.bad_no hq
    rw [e]
    by_cases q1 : (R.fix 1).2.e = 0
    · have q2 : ¬ idxNats ls (IntKind.u8.wrap (R.fix 1).1).toNat < 0 := fun q => hq ⟨q1, q⟩
      have q1 := eq_true q1
      simp +contextual (disch := first | (simp only [fq]; done) | omega | (simp only [Knx]; omega) | (apply Nat.le_antisymm <;> simp only [Knx] <;> omega) | fail) only [wpy, fW, reduceLE, reduceLT, reduceLeDiff, UInt8.reduceToNat, ↓reduceIte, reduceEqDiff, reduceAdd, reduceCtorEq, reduceToNat, Try.f69, g, q1, q2]
      exact ⟨a1, b1⟩
    · simp +contextual (disch := first | (simp only [fq]; done) | omega | (simp only [Knx]; omega) | (apply Nat.le_antisymm <;> simp only [Knx] <;> omega) | fail) only [wpy, fW, reduceLE, reduceLT, reduceLeDiff, UInt8.reduceToNat, ↓reduceIte, reduceEqDiff, reduceAdd, reduceCtorEq, reduceToNat, Try.f69, g, q1]
      exact ⟨a1, b1⟩
def overF (R : Rd) : Rd := R.over
theorem over_spec {n0 r : Nat} {R : Rd} {h : H} (a : RdS 5 114 n0 r R h) : callW S.cfg (· = r) 76 [.ptr r 0] h fun v h' => v = .int .i64 (overF R).e ∧ RdR 114 n0 r (overF R) h h' := by
  refine into Try.f76 _ Try.func76 (hS.ownB _ (by decide)) rfl rfl (by kernel_rfl) (by kernel_rfl) ?_
  have a' := a
  obtain ⟨⟨v, g, hb, ho⟩, hlt⟩ := a
  have a1 := hb.len 5
  by_cases hq : R.e = 0 ∧ R.bs ≠ []
  · have q1 := eq_true hq.1
    have q2 : 0 < R.bs.length := List.length_pos_iff.2 hq.2
    have e : overF R = ⟨R.bs, 5⟩ := Rd.bad_yes hq
    rw [e]
    simp +contextual (disch := first | (simp only [fq]; done) | omega | (simp only [Knx]; omega) | (apply Nat.le_antisymm <;> simp only [Knx] <;> omega) | fail) only [wpy, fW, reduceLE, reduceLT, reduceLeDiff, UInt8.reduceToNat, ↓reduceIte, reduceEqDiff, reduceAdd, reduceCtorEq, reduceToNat, Try.f76, g, a1, q1, q2]
    exact ⟨RdS.put (R := ⟨R.bs, 5⟩) hb ho hlt, (But.refl r h).put _⟩
  · have e : overF R = R := Rd.bad_no hq
    rw [e]
    by_cases q1 : R.e = 0
    · have q3 : R.bs = [] := Classical.not_not.1 fun q => hq ⟨q1, q⟩
      have q2 : ¬ 0 < R.bs.length := by rw [q3]; decide
      have q1 := eq_true q1
      simp +contextual (disch := first | (simp only [fq]; done) | omega | (simp only [Knx]; omega) | (apply Nat.le_antisymm <;> simp only [Knx] <;> omega) | fail) only [wpy, fW, reduceLE, reduceLT, reduceLeDiff, UInt8.reduceToNat, ↓reduceIte, reduceEqDiff, reduceAdd, reduceCtorEq, reduceToNat, Try.f76, g, a1, q1, q2]
      exact ⟨a', But.refl r h⟩
    · simp +contextual (disch := first | (simp only [fq]; done) | omega | (simp only [Knx]; omega) | (apply Nat.le_antisymm <;> simp only [Knx] <;> omega) | fail) only [wpy, fW, reduceLE, reduceLT, reduceLeDiff, UInt8.reduceToNat, ↓reduceIte, reduceEqDiff, reduceAdd, reduceCtorEq, reduceToNat, Try.f76, g, a1, q1]
      exact ⟨a', But.refl r h⟩
omit hS in
theorem nil_bs {lv : V} (hv : lv = .nilslice ∨ ∃ b o n m, lv = .slice b o n m) : binV Try.prog .eql 27 (constO (.tmp 3) || constO (.const (Value.slice none 0 0))) lv .nilslice = some (bo (lv = .nilslice)) := by
  rcases hv with rfl | ⟨b, o, n, m, rfl⟩
  · have e : binV Try.prog .eql 27 (constO (.tmp 3) || constO (.const (Value.slice none 0 0))) .nilslice .nilslice = some (.bool true) := by kernel_rfl
    rw [e]; simp [bo]
  · have e : binV Try.prog .eql 27 (constO (.tmp 3) || constO (.const (Value.slice none 0 0))) (.slice b o n m) .nilslice = some (.bool false) := by kernel_rfl
    rw [e]; simp [bo]
omit hS in
theorem isCell_bytes (l : List Nat) : (bytesV l).all V.isCell = true := by simp [bytesV, V.isCell]
omit hS in
theorem _root_.Go.Wx.Lst.off {n0 : Nat} {h : H} {v : V} {cells : List V} {e sz : Nat} (a : Lst n0 h v cells e sz) : ∀ k, k < n0 → Off v k := fun k hk o n m q => by
  rcases a with a | ⟨_, b, h0, h1, q2, _⟩
  · exact a.ne hk q
  · rw [q2] at q; cases q; omega
theorem bclone_spec {v : V} {l : List Nat} {h : H} (a : BS 5 h v l) (hl : l.length < 2 ^ 28) : Pure S.cfg 25 [v] h fun w h' => Lst h.nx h' w (bytesV l) 5 1 := by
  refine into Try.f25 _ Try.func25 (hS.ownB _ (by decide)) rfl rfl (by kernel_rfl) (by kernel_rfl) ?_
  have hn : binV Try.prog .eql 27 (constO (.tmp 3) || constO (.const (Value.slice none 0 0))) v .nilslice = some (bo (v = .nilslice)) := nil_bs (by
    rcases a.form with ⟨rfl, rfl⟩ | ⟨b, o, m, rfl⟩
    · exact .inl rfl
    · exact .inr ⟨_, _, _, _, rfl⟩)
  by_cases h0 : v = .nilslice
  · have hls : l = [] := by
      rcases a.form with ⟨_, q⟩ | ⟨b, o, m, q⟩
      · exact q
      · rw [h0] at q; cases q
    subst h0
    subst hls
    simp +contextual (disch := first | (simp only [fq]; done) | omega | (simp only [Knx]; omega) | (apply Nat.le_antisymm <;> simp only [Knx] <;> omega) | fail) only [wpy, fW, reduceLE, reduceLT, reduceLeDiff, UInt8.reduceToNat, ↓reduceIte, reduceEqDiff, reduceAdd, reduceCtorEq, reduceToNat, Try.f25, hn]
    exact ⟨Ext.refl h, .inl (.inl ⟨rfl, rfl⟩)⟩
  · simp +contextual (disch := first | (simp only [fq]; done) | omega | (simp only [Knx]; omega) | (apply Nat.le_antisymm <;> simp only [Knx] <;> omega) | fail) only [wpy, fW, reduceLE, reduceLT, reduceLeDiff, UInt8.reduceToNat, ↓reduceIte, reduceEqDiff, reduceAdd, reduceCtorEq, reduceToNat, Try.f25, hn, h0]
    generalize hhA : h.push (Ob.cells [] 5 false) = hA
    have hxA : Ext h hA := by rw [← hhA]; exact (Ext.refl h).push _
    have hgA : hA.get h.nx = some (.cells [] 5 false) := by rw [← hhA]; exact push_eq rfl
    have hnA : hA.nx = h.nx + 1 := by rw [← hhA]; rfl
    clear hhA
    refine append_lst (n0 := h.nx) (sv := .slice h.nx 0 0 0) (xv := v) (cells := []) (new := bytesV l) ?_ ?_ ap27 ⟨.slice 5, by kernel_rfl, rfl⟩ (.inr ⟨rfl, h.nx, Nat.le_refl _, by omega, rfl, hgA⟩) (a.ext hxA).src (isCell_bytes _) ?_ (by decide) (fun k hk => by rw [fresh_def]; exact .inl hk) (by omega) ?_
    · simp +contextual (disch := first | (simp only [fq]; done) | omega | (simp only [Knx]; omega) | (apply Nat.le_antisymm <;> simp only [Knx] <;> omega) | fail) only [wpy, fW, reduceLE, reduceLT, reduceLeDiff, UInt8.reduceToNat, ↓reduceIte, reduceEqDiff, reduceAdd, reduceCtorEq, reduceToNat]
    · simp +contextual (disch := first | (simp only [fq]; done) | omega | (simp only [Knx]; omega) | (apply Nat.le_antisymm <;> simp only [Knx] <;> omega) | fail) only [wpy, fW, reduceLE, reduceLT, reduceLeDiff, UInt8.reduceToNat, ↓reduceIte, reduceEqDiff, reduceAdd, reduceCtorEq, reduceToNat]
    · rw [bytesV_length]; simp only [List.length_nil]; omega
    intro w h1 L hl1 hn1 hk1 hf1 hL1
    simp +contextual (disch := first | (simp only [fq]; done) | omega | (simp only [Knx]; omega) | (apply Nat.le_antisymm <;> simp only [Knx] <;> omega) | fail) only [wpy, fW, reduceLE, reduceLT, reduceLeDiff, UInt8.reduceToNat, ↓reduceIte, reduceEqDiff, reduceAdd, reduceCtorEq, reduceToNat, Try.f25]
    exact ⟨⟨by omega, fun k hk => by rw [hf1 k hk, hxA.2 k hk]⟩, hl1⟩
theorem rest_spec {n0 r : Nat} {R : Rd} {h : H} (a : RdS 5 114 n0 r R h) (hl : R.bs.length < 2 ^ 28) : callW S.cfg (· = r) 84 [.ptr r 0] h fun w h' => BS 5 h' w R.bs ∧ RdR 114 n0 r ⟨[], R.e⟩ h h' := by
  refine into Try.f84 _ Try.func84 (hS.ownB _ (by decide)) rfl rfl (by kernel_rfl) (by kernel_rfl) ?_
  obtain ⟨⟨v, g, hb, ho⟩, hlt⟩ := a
  simp +contextual (disch := first | (simp only [fq]; done) | omega | (simp only [Knx]; omega) | (apply Nat.le_antisymm <;> simp only [Knx] <;> omega) | fail) only [wpy, fW, reduceLE, reduceLT, reduceLeDiff, UInt8.reduceToNat, ↓reduceIte, reduceEqDiff, reduceAdd, reduceCtorEq, reduceToNat, Try.f84, g]
  refine callF_pure (bclone_spec hS hb hl) ?_
  intro w h1 hx hw
  have g1 : h1.get r = some (.cells [v, .int .i64 R.e] 114 false) := by rw [hx.2 r hlt.2]; exact g
  have hlt1 : n0 ≤ r ∧ r < h1.nx := ⟨hlt.1, Nat.lt_of_lt_of_le hlt.2 hx.1⟩
  simp +contextual (disch := first | (simp only [fq]; done) | omega | (simp only [Knx]; omega) | (apply Nat.le_antisymm <;> simp only [Knx] <;> omega) | fail) only [wpy, fW, reduceLE, reduceLT, reduceLeDiff, UInt8.reduceToNat, ↓reduceIte, reduceEqDiff, reduceAdd, reduceCtorEq, reduceToNat, Try.f84, g1]
  exact ⟨(BS.of_lst hb.1 hw).put (hw.off r hlt.2), RdS.put (R := ⟨[], R.e⟩) (BS.nil _ _) (fun _ _ _ _ _ q => by cases q) hlt1, (But.of_ext hx).put _⟩
end
end Go.Proofs.Ytinbhlejofgomaa
set_option maxHeartbeats 2000000
namespace Go.Proofs.Ytinbhlejofgomaa
open Int (reduceLE reduceLT reduceToNat)
open Nat (reduceLeDiff reduceEqDiff reduceAdd)
open Go.Proofs Go.Lx Go.Wx Go.IntWalk
noncomputable section
def hasP (c x : Int) : Prop := ¬ iAnd .u32 c x = 0
def sessP (c : Int) : Prop := hasP c 8388608
def chgP (st : Int) : Prop := ¬ iAnd .u16 st 16384 = 0
def trkP (c st : Int) : Prop := sessP c ∧ chgP st
def okeF (l : List Nat) (c : Int) : Int := okE l (sessP c) (trkP c (okS l).1)
def oz : List V := [.int .u64 0, .int .u64 0, .int .u16 0, .int .u16 0, .str [], .nilslice]
theorem RdR.trans {t n0 r : Nat} {R R1 : Rd} {h h1 h2 : H} (a : RdR t n0 r R h h1) (b : RdR t n0 r R1 h1 h2) : RdR t n0 r R1 h h2 := ⟨b.1, a.2.trans b.2⟩
theorem txt_bytes {R : Rd} (h : ∀ x ∈ R.bs, x < 256) : ∀ x ∈ R.txt.1, x < 256 := fun x hx => by
  unfold Rd.txt at hx
  split at hx
  · cases hx
  · exact (txF_ok h).2.2.1 x hx
def okX (l : List Nat) : Int × Int × Int :=
  let R := (Rd.mk l 0).byt
  let R2 := R.2.bad (R.1 ≠ 0 ∧ R.1 ≠ 254)
  (R2.cnt.1, R2.cnt.2.cnt.1, IntKind.u16.wrap ((R2.cnt.2.cnt.2.fix 2).2.fix 2).1)
def okI (R : Rd) (has trk : Prop) : List Nat × List Nat := @ite _ (R.e ≠ 0) (Classical.propDecidable _) ([], []) (@ite _ has (Classical.propDecidable _) (@ite _ trk (Classical.propDecidable _) (R.txt.1, R.txt.2.txt.1) (@ite _ (R.bs ≠ []) (Classical.propDecidable _) (R.txt.1, []) ([], []))) (R.bs, []))
structure OkV where
  a : Int
  i : Int
  s : Int
  w : Int
  t : List Nat
  k : List Nat
def OkV.z : OkV := ⟨0, 0, 0, 0, [], []⟩
def okV (l : List Nat) (c : Int) : OkV := @ite _ (okeF l c = 0) (Classical.propDecidable _) ⟨(okX l).1, (okX l).2.1, (okS l).1, (okX l).2.2, (okI (okS l).2 (sessP c) (trkP c (okS l).1)).1, (okI (okS l).2 (sessP c) (trkP c (okS l).1)).2⟩ OkV.z
def OkV.cells (o : OkV) (y : V) : List V := [.int .u64 o.a, .int .u64 o.i, .int .u16 o.s, .int .u16 o.w, .str o.t, y]
variable {S : Set0} (hS : StdB S)
include hS
theorem has_spec (c x : Int) (h : H) : Exact S.cfg 46 [.int .u32 c, .int .u32 x] h (bo (hasP c x)) := by
  refine into Try.f46 _ Try.func46 (hS.ownB _ (by decide)) rfl rfl (by kernel_rfl) (by kernel_rfl) ?_
  simp +contextual (disch := first | (simp only [fq]; done) | omega | (simp only [Knx]; omega) | (apply Nat.le_antisymm <;> simp only [Knx] <;> omega) | fail) only [wpy, fW, reduceLE, reduceLT, reduceLeDiff, UInt8.reduceToNat, ↓reduceIte, reduceEqDiff, reduceAdd, reduceCtorEq, reduceToNat, Try.f46]
  rfl
theorem tracked_spec (c a b s w : Int) (t : List Nat) (x : V) (hx : x.cells = [x] ∧ x.isCell = true) (h : H) : Pure S.cfg 44 [.int .u32 c, .agg [.int .u64 a, .int .u64 b, .int .u16 s, .int .u16 w, .str t, x]] h fun v _ => v = bo (trkP c s) := by
  refine into Try.f44 _ Try.func44 (hS.ownB _ (by decide)) rfl rfl (by kernel_rfl) (by kernel_rfl) ?_
  have hx1 := hx.1
  have hx2 := hx.2
  simp +contextual (disch := first | (simp only [fq]; done) | omega | (simp only [Knx]; omega) | (apply Nat.le_antisymm <;> simp only [Knx] <;> omega) | fail) only [wpy, fW, reduceLE, reduceLT, reduceLeDiff, UInt8.reduceToNat, ↓reduceIte, reduceEqDiff, reduceAdd, reduceCtorEq, reduceToNat, Try.f44, hx1, hx2]
  refine callF_exact (has_spec hS c 8388608 _) ?_
  by_cases hq : sessP c
  · have hq1 : hasP c 8388608 := hq
    simp +contextual (disch := first | (simp only [fq]; done) | omega | (simp only [Knx]; omega) | (apply Nat.le_antisymm <;> simp only [Knx] <;> omega) | fail) only [wpy, fW, reduceLE, reduceLT, reduceLeDiff, UInt8.reduceToNat, ↓reduceIte, reduceEqDiff, reduceAdd, reduceCtorEq, reduceToNat, Try.f44, hq1]
    exact ⟨(Ext.refl h).push _, bo_eq ⟨fun q => ⟨hq, q⟩, fun q => q.2⟩⟩
  · have hq1 : ¬ hasP c 8388608 := hq
    simp +contextual (disch := first | (simp only [fq]; done) | omega | (simp only [Knx]; omega) | (apply Nat.le_antisymm <;> simp only [Knx] <;> omega) | fail) only [wpy, fW, reduceLE, reduceLT, reduceLeDiff, UInt8.reduceToNat, ↓reduceIte, reduceEqDiff, reduceAdd, reduceCtorEq, reduceToNat, Try.f44, hq1]
    exact ⟨(Ext.refl h).push _, bo_eq ⟨fun q => q.elim, fun q => hq q.1⟩⟩
theorem first_spec {v : V} {l : List Nat} {h : H} (a : BS 5 h v l) (c : Int) : Exact S.cfg 49 [v, .int .u32 c] h (.int .i64 (@ite _ (l.length = 0) (Classical.propDecidable _) 0 (@ite _ (byI l 0 = 0) (Classical.propDecidable _) 1 (@ite _ (byI l 0 = 255) (Classical.propDecidable _) 2 (@ite _ (byI l 0 = 251 ∧ hasP c 128) (Classical.propDecidable _) 4 0))))) := by
  refine into Try.f49 _ Try.func49 (hS.ownB _ (by decide)) rfl rfl (by kernel_rfl) (by kernel_rfl) ?_
  have a1 := a.len 5
  by_cases h0 : l.length = 0
  · rw [if_pos h0]
    simp +contextual (disch := first | (simp only [fq]; done) | omega | (simp only [Knx]; omega) | (apply Nat.le_antisymm <;> simp only [Knx] <;> omega) | fail) only [wpy, fW, reduceLE, reduceLT, reduceLeDiff, UInt8.reduceToNat, ↓reduceIte, reduceEqDiff, reduceAdd, reduceCtorEq, reduceToNat, Try.f49, a1, h0]
  rw [if_neg h0]
  obtain ⟨b, o, m, rfl, _, _⟩ := a.at (i := 0) (by omega)
  obtain ⟨_, hb, hrd⟩ := a.rd
  have hr := hrd 0 (by omega)
  rw [Nat.add_zero] at hr
  have hl0 : 0 < l.length := by omega
  by_cases h1 : byI l 0 = 0
  · rw [if_pos h1]
    have h1 := eq_true h1
    simp +contextual (disch := first | (simp only [fq]; done) | omega | (simp only [Knx]; omega) | (apply Nat.le_antisymm <;> simp only [Knx] <;> omega) | fail) only [wpy, fW, reduceLE, reduceLT, reduceLeDiff, UInt8.reduceToNat, ↓reduceIte, reduceEqDiff, reduceAdd, reduceCtorEq, reduceToNat, Try.f49, a1, h0, hl0, hr, h1]
  rw [if_neg h1]
  by_cases h2 : byI l 0 = 255
  · rw [if_pos h2]
    have h2 := eq_true h2
    simp +contextual (disch := first | (simp only [fq]; done) | omega | (simp only [Knx]; omega) | (apply Nat.le_antisymm <;> simp only [Knx] <;> omega) | fail) only [wpy, fW, reduceLE, reduceLT, reduceLeDiff, UInt8.reduceToNat, ↓reduceIte, reduceEqDiff, reduceAdd, reduceCtorEq, reduceToNat, Try.f49, a1, h0, hl0, hr, h1, h2]
  rw [if_neg h2]
  simp +contextual (disch := first | (simp only [fq]; done) | omega | (simp only [Knx]; omega) | (apply Nat.le_antisymm <;> simp only [Knx] <;> omega) | fail) only [wpy, fW, reduceLE, reduceLT, reduceLeDiff, UInt8.reduceToNat, ↓reduceIte, reduceEqDiff, reduceAdd, reduceCtorEq, reduceToNat, Try.f49, a1, h0, hl0, hr, h1, h2]
  refine gCall_exact (first := []) (cap := []) (fun _ => has_spec hS c 128 _) fun fp => ?_
  by_cases h3 : byI l 0 = 251
  · by_cases h4 : hasP c 128
    · rw [if_pos ⟨h3, h4⟩]
      have h3 := eq_true h3
      simp +contextual (disch := first | (simp only [fq]; done) | omega | (simp only [Knx]; omega) | (apply Nat.le_antisymm <;> simp only [Knx] <;> omega) | fail) only [wpy, fW, reduceLE, reduceLT, reduceLeDiff, UInt8.reduceToNat, ↓reduceIte, reduceEqDiff, reduceAdd, reduceCtorEq, reduceToNat, Try.f49, a1, h0, hl0, hr, h1, h2, h3, h4]
    · rw [if_neg (fun q => h4 q.2)]
      have h3 := eq_true h3
      simp +contextual (disch := first | (simp only [fq]; done) | omega | (simp only [Knx]; omega) | (apply Nat.le_antisymm <;> simp only [Knx] <;> omega) | fail) only [wpy, fW, reduceLE, reduceLT, reduceLeDiff, UInt8.reduceToNat, ↓reduceIte, reduceEqDiff, reduceAdd, reduceCtorEq, reduceToNat, Try.f49, a1, h0, hl0, hr, h1, h2, h3, h4]
  · rw [if_neg (fun q => h3 q.1)]
    simp +contextual (disch := first | (simp only [fq]; done) | omega | (simp only [Knx]; omega) | (apply Nat.le_antisymm <;> simp only [Knx] <;> omega) | fail) only [wpy, fW, reduceLE, reduceLT, reduceLeDiff, UInt8.reduceToNat, ↓reduceIte, reduceEqDiff, reduceAdd, reduceCtorEq, reduceToNat, Try.f49, a1, h0, hl0, hr, h1, h2, h3]
theorem readok_spec {v : V} {l : List Nat} {h : H} (a : BS 5 h v l) (hl : l.length < 2 ^ 28) (c : Int) : Pure S.cfg 67 [v, .int .u32 c] h fun w h' => ∃ y, w = .tuple [.agg ((okV l c).cells y), .int .i64 (okeF l c)] ∧ BS 5 h' y (okV l c).k ∧ ∀ k, k < h.nx → Off y k := by
  refine into Try.f67 _ Try.func67 (hS.ownB _ (by decide)) rfl rfl (by kernel_rfl) (by kernel_rfl) ?_
  obtain ⟨c1, c2⟩ := a.cell
  simp +contextual (disch := first | (simp only [fq]; done) | omega | (simp only [Knx]; omega) | (apply Nat.le_antisymm <;> simp only [Knx] <;> omega) | fail) only [wpy, fW, reduceLE, reduceLT, reduceLeDiff, UInt8.reduceToNat, ↓reduceIte, reduceEqDiff, reduceAdd, reduceCtorEq, reduceToNat, Try.f67, c1, c2]
  generalize hhA : H.push _ (Ob.cells [V.int IntKind.u8 0, V.int IntKind.u8 254] 5 false) = hA
  have hxA : Ext h hA := by rw [← hhA]; exact (((Ext.refl h).push _).push _).push _
  have hnA : hA.nx = h.nx + 3 := by rw [← hhA]; rfl
  have gR : hA.get (h.nx + 1) = some (.cells [v, .int .i64 0] 114 false) := by rw [← hhA, push_ne (by simp only [push_nx]; omega)]; exact push_eq rfl
  have gZ : hA.get h.nx = some (.cells oz 45 false) := by rw [← hhA, push_ne (by simp only [push_nx]; omega), push_ne (by simp only [push_nx]; omega)]; exact push_eq rfl
  have gL : hA.get (h.nx + 1 + 1) = some (.cells (bytesV [0, 254]) 5 false) := by rw [← hhA]; exact push_eq rfl
  clear hhA
  have al : BS 5 hA (.slice (h.nx + 1 + 1) 0 2 2) [0, 254] := ⟨by intro x hx; simp at hx; omega, .inr ⟨_, 0, 2, rfl, by omega, by decide, by rw [gL]; rfl, fun kc e' fl q hf => by rw [gL] at q; cases q; cases hf⟩⟩
  have a2 : RdS 5 114 h.nx (h.nx + 1) ⟨l, 0⟩ hA := ⟨⟨v, gR, a.ext hxA, fun k hk => a.off hk⟩, by omega, by omega⟩
  have okf : ∀ k, k = h.nx + 1 → fresh h.nx nil1 k := fun k hk => by rw [fresh_def]; exact .inl (by omega)
  have hR2 : mustF ⟨l, 0⟩ [0, 254] = (Rd.mk l 0).byt.2.bad ((Rd.mk l 0).byt.1 ≠ 0 ∧ (Rd.mk l 0).byt.1 ≠ 254) := by
    unfold mustF
    rw [(Rd.byt_fix (R := ⟨l, 0⟩) a.1).1, (Rd.byt_fix (R := ⟨l, 0⟩) a.1).2, must_two _ (Rd.byt_in (R := ⟨l, 0⟩) a.1).1]
  have l0 : (Rd.mk l 0).byt.2.bs.length ≤ l.length := by rw [← (Rd.byt_fix (R := ⟨l, 0⟩) a.1).2]; exact Rd.fix_len _ _
  refine callF_of (must_spec hS a2 (by show l.length < _; omega) al (fun o n m q => by injection q; omega)) okf ?_
  rw [hR2]
  generalize hgR2 : (Rd.mk l 0).byt.2.bad ((Rd.mk l 0).byt.1 ≠ 0 ∧ (Rd.mk l 0).byt.1 ≠ 254) = R2
  have l2 : R2.bs.length ≤ l.length := by rw [← hgR2, Rd.bad_bs]; exact l0
  rintro w1 h1 r1
  simp +contextual (disch := first | (simp only [fq]; done) | omega | (simp only [Knx]; omega) | (apply Nat.le_antisymm <;> simp only [Knx] <;> omega) | fail) only [wpy, fW, reduceLE, reduceLT, reduceLeDiff, UInt8.reduceToNat, ↓reduceIte, reduceEqDiff, reduceAdd, reduceCtorEq, reduceToNat, Try.f67]
  refine callF_of (cnt_spec hS r1.1 (by omega)) okf ?_
  have l3 := Rd.cnt_len R2
  rintro _ h2 ⟨rfl, r2⟩
  simp +contextual (disch := first | (simp only [fq]; done) | omega | (simp only [Knx]; omega) | (apply Nat.le_antisymm <;> simp only [Knx] <;> omega) | fail) only [wpy, fW, reduceLE, reduceLT, reduceLeDiff, UInt8.reduceToNat, ↓reduceIte, reduceEqDiff, reduceAdd, reduceCtorEq, reduceToNat, Try.f67]
  refine callF_of (cnt_spec hS r2.1 (by omega)) okf ?_
  have l4 := Rd.cnt_len R2.cnt.2
  rintro _ h3 ⟨rfl, r3⟩
  simp +contextual (disch := first | (simp only [fq]; done) | omega | (simp only [Knx]; omega) | (apply Nat.le_antisymm <;> simp only [Knx] <;> omega) | fail) only [wpy, fW, reduceLE, reduceLT, reduceLeDiff, UInt8.reduceToNat, ↓reduceIte, reduceEqDiff, reduceAdd, reduceCtorEq, reduceToNat, Try.f67]
  refine callF_of (fix_spec hS r3.1 (by omega) 2 (by omega)) okf ?_
  have l5 := Rd.fix_len R2.cnt.2.cnt.2 2
  rintro _ h4 ⟨rfl, r4⟩
  simp +contextual (disch := first | (simp only [fq]; done) | omega | (simp only [Knx]; omega) | (apply Nat.le_antisymm <;> simp only [Knx] <;> omega) | fail) only [wpy, fW, reduceLE, reduceLT, reduceLeDiff, UInt8.reduceToNat, ↓reduceIte, reduceEqDiff, reduceAdd, reduceCtorEq, reduceToNat, Try.f67]
  refine callF_of (fix_spec hS r4.1 (by omega) 2 (by omega)) okf ?_
  have l6 := Rd.fix_len (R2.cnt.2.cnt.2.fix 2).2 2
  rintro _ h5 ⟨rfl, r5⟩
  have hS5 : okS l = (IntKind.u16.wrap (R2.cnt.2.cnt.2.fix 2).1, ((R2.cnt.2.cnt.2.fix 2).2.fix 2).2) := by rw [← hgR2]; rfl
  have hX : okX l = (R2.cnt.1, R2.cnt.2.cnt.1, IntKind.u16.wrap ((R2.cnt.2.cnt.2.fix 2).2.fix 2).1) := by rw [← hgR2]; rfl
  have hRa : okeF l c = (okR l (sessP c) (trkP c (IntKind.u16.wrap (R2.cnt.2.cnt.2.fix 2).1))).over.e := by unfold okeF okE; rw [hS5]
  have hRb : ∀ p q : Prop, okR l p q = @ite _ (((R2.cnt.2.cnt.2.fix 2).2.fix 2).2.e ≠ 0) (Classical.propDecidable _) ((R2.cnt.2.cnt.2.fix 2).2.fix 2).2 (@ite _ p (Classical.propDecidable _) (@ite _ q (Classical.propDecidable _) ((R2.cnt.2.cnt.2.fix 2).2.fix 2).2.txt.2.txt.2 (@ite _ (((R2.cnt.2.cnt.2.fix 2).2.fix 2).2.bs ≠ []) (Classical.propDecidable _) ((R2.cnt.2.cnt.2.fix 2).2.fix 2).2.txt.2 ((R2.cnt.2.cnt.2.fix 2).2.fix 2).2)) ⟨[], ((R2.cnt.2.cnt.2.fix 2).2.fix 2).2.e⟩) := fun p q => by unfold okR; rw [hS5]
  have hV : okV l c = @ite _ ((okR l (sessP c) (trkP c (IntKind.u16.wrap (R2.cnt.2.cnt.2.fix 2).1))).over.e = 0) (Classical.propDecidable _) ⟨R2.cnt.1, R2.cnt.2.cnt.1, IntKind.u16.wrap (R2.cnt.2.cnt.2.fix 2).1, IntKind.u16.wrap ((R2.cnt.2.cnt.2.fix 2).2.fix 2).1, (okI ((R2.cnt.2.cnt.2.fix 2).2.fix 2).2 (sessP c) (trkP c (IntKind.u16.wrap (R2.cnt.2.cnt.2.fix 2).1))).1, (okI ((R2.cnt.2.cnt.2.fix 2).2.fix 2).2 (sessP c) (trkP c (IntKind.u16.wrap (R2.cnt.2.cnt.2.fix 2).1))).2⟩ OkV.z := by unfold okV; rw [hRa, hS5, hX]
  rw [hRa, hV]
  clear hRa hV hX
  have b5 : But (h.nx + 1) hA h5 := ((((r1.2.trans r2.2).trans r3.2).trans r4.2).trans r5.2)
  generalize ((R2.cnt.2.cnt.2.fix 2).2.fix 2).2 = R6 at *
  generalize (IntKind.u16.wrap (R2.cnt.2.cnt.2.fix 2).1) = st at *
  generalize ((R2.cnt.2.cnt.2.fix 2).2.fix 2).1 = x5 at *
  obtain ⟨x4, hx4⟩ : ∃ x4, x4 = IntKind.u16.wrap x5 := ⟨_, rfl⟩
  rw [← hx4]
  generalize R2.cnt.1 = x1 at *
  generalize R2.cnt.2.cnt.1 = x2 at *
  have l7 : R6.bs.length < 2 ^ 28 := by omega
  have b5n := b5.1
  have gZ5 : h5.get h.nx = some (.cells oz 45 false) := by rw [b5.2 _ (by omega) (by omega)]; exact gZ
  obtain ⟨⟨v5, g5, hb5, ho5⟩, hlt5⟩ := r5.1
  simp +contextual (disch := first | (simp only [fq]; done) | omega | (simp only [Knx]; omega) | (apply Nat.le_antisymm <;> simp only [Knx] <;> omega) | fail) only [wpyr, fW, reduceLE, reduceLT, reduceLeDiff, UInt8.reduceToNat, ↓reduceIte, reduceEqDiff, reduceAdd, reduceCtorEq, reduceToNat, Try.f67, g5]
  refine ⟨.inr (by omega), ?_⟩
  generalize hhC : H.put _ _ _ = hC
  have hxC : Ext h5 hC := by rw [← hhC]; exact Ext.new _ _ _
  have hnC : hC.nx = h5.nx + 1 := by rw [← hhC]; rfl
  have gC : hC.get h5.nx = some (.cells [.int .u64 x1, .int .u64 x2, .int .u16 st, .int .u16 x4, .str [], .nilslice] 45 false) := by rw [← hhC, hx4]; exact put_eq rfl
  clear hhC
  have gZC : hC.get h.nx = some (.cells oz 45 false) := by rw [hxC.2 _ (by omega)]; exact gZ5
  have rC : RdS 5 114 h.nx (h.nx + 1) R6 hC := r5.1.ext hxC
  have gRC : hC.get (h.nx + 1) = some (.cells [v5, .int .i64 R6.e] 114 false) := by rw [hxC.2 _ (by omega)]; exact g5
  refine run_blk_cut (fun env' h' => env' 4 = .ptr h.nx 0 ∧ env' 6 = .ptr (h.nx + 1) 0 ∧ env' 7 = .ptr h5.nx 0 ∧ RdS 5 114 h.nx (h.nx + 1) (okR l (sessP c) (trkP c st)) h' ∧ Ext h h' ∧ h'.get h.nx = some (.cells oz 45 false) ∧ h5.nx < h'.nx ∧ ∃ y, h'.get h5.nx = some (.cells [.int .u64 x1, .int .u64 x2, .int .u16 st, .int .u16 x4, .str (okI R6 (sessP c) (trkP c st)).1, y] 45 false) ∧ BS 5 h' y (okI R6 (sessP c) (trkP c st)).2 ∧ ∀ k, k ≤ h.nx + 1 → Off y k) ?_ ?_
  · have hxhC : Ext h hC := But.ext hxA (b5.trans (But.of_ext hxC)) (by omega)
    by_cases he : R6.e ≠ 0
    · have hI : okI R6 (sessP c) (trkP c st) = ([], []) := if_pos he
      rw [hRb, if_pos he, hI]
      have he' : ¬ R6.e = 0 := he
      simp +contextual (disch := first | (simp only [fq]; done) | omega | (simp only [Knx]; omega) | (apply Nat.le_antisymm <;> simp only [Knx] <;> omega) | fail) only [wpy, fW, reduceLE, reduceLT, reduceLeDiff, UInt8.reduceToNat, ↓reduceIte, reduceEqDiff, reduceAdd, reduceCtorEq, reduceToNat, Try.f67, gRC, he']
      exact ⟨rC, hxhC, gZC, by omega, .nilslice, gC, BS.nil _ _, fun k _ o n m q => by cases q⟩
    have he0 : R6.e = 0 := Classical.not_not.1 he
    simp +contextual (disch := first | (simp only [fq]; done) | omega | (simp only [Knx]; omega) | (apply Nat.le_antisymm <;> simp only [Knx] <;> omega) | fail) only [wpy, fW, reduceLE, reduceLT, reduceLeDiff, UInt8.reduceToNat, ↓reduceIte, reduceEqDiff, reduceAdd, reduceCtorEq, reduceToNat, Try.f67, gRC, he0]
    refine callF_exact (has_spec hS c 8388608 _) ?_
    by_cases hs : sessP c
    · have hs' : hasP c 8388608 := hs
      simp +contextual (disch := first | (simp only [fq]; done) | omega | (simp only [Knx]; omega) | (apply Nat.le_antisymm <;> simp only [Knx] <;> omega) | fail) only [wpy, fW, reduceLE, reduceLT, reduceLeDiff, UInt8.reduceToNat, ↓reduceIte, reduceEqDiff, reduceAdd, reduceCtorEq, reduceToNat, Try.f67, hs', gC]
      refine callF_pure (tracked_spec hS c _ _ _ _ _ _ ⟨rfl, rfl⟩ _) ?_
      rintro _ hD hxD rfl
      have gD : hD.get h5.nx = some (.cells [.int .u64 x1, .int .u64 x2, .int .u16 st, .int .u16 x4, .str [], .nilslice] 45 false) := by rw [hxD.2 _ (by omega)]; exact gC
      have gZD : hD.get h.nx = some (.cells oz 45 false) := by rw [hxD.2 _ (by omega)]; exact gZC
      have gRD : hD.get (h.nx + 1) = some (.cells [v5, .int .i64 R6.e] 114 false) := by rw [hxD.2 _ (by omega)]; exact gRC
      have hnD := hxD.1
      have rD := rC.ext hxD
      have hxhD := hxhC.trans hxD
      by_cases ht : trkP c st
      · have hI : okI R6 (sessP c) (trkP c st) = (R6.txt.1, R6.txt.2.txt.1) := by unfold okI; rw [if_neg he, if_pos hs, if_pos ht]
        rw [hRb, if_neg he, if_pos hs, if_pos ht, hI]
        simp +contextual (disch := first | (simp only [fq]; done) | omega | (simp only [Knx]; omega) | (apply Nat.le_antisymm <;> simp only [Knx] <;> omega) | fail) only [wpy, fW, reduceLE, reduceLT, reduceLeDiff, UInt8.reduceToNat, ↓reduceIte, reduceEqDiff, reduceAdd, reduceCtorEq, reduceToNat, Try.f67, ht]
        refine callF_of (txt_spec hS rD (by omega)) okf ?_
        rintro _ h8 ⟨rfl, r8⟩
        have n8 := r8.2.1
        have g8 : h8.get h5.nx = some (.cells [.int .u64 x1, .int .u64 x2, .int .u16 st, .int .u16 x4, .str [], .nilslice] 45 false) := by rw [r8.2.2 _ (by omega) (by omega)]; exact gD
        have gZ8 : h8.get h.nx = some (.cells oz 45 false) := by rw [r8.2.2 _ (by omega) (by omega)]; exact gZD
        have hxh8 : Ext h h8 := But.ext hxhD r8.2 (by omega)
        simp +contextual (disch := first | (simp only [fq]; done) | omega | (simp only [Knx]; omega) | (apply Nat.le_antisymm <;> simp only [Knx] <;> omega) | fail) only [wpy, fW, reduceLE, reduceLT, reduceLeDiff, UInt8.reduceToNat, ↓reduceIte, reduceEqDiff, reduceAdd, reduceCtorEq, reduceToNat, Try.f67, g8]
        refine ⟨.inr (by omega), ?_⟩
        generalize hh9 : H.put h8 _ _ = h9
        have hn9 : h9.nx = h8.nx := by rw [← hh9]; rfl
        have g9 : h9.get h5.nx = some (.cells [.int .u64 x1, .int .u64 x2, .int .u16 st, .int .u16 x4, .str R6.txt.1, .nilslice] 45 false) := by rw [← hh9]; exact put_eq rfl
        have gZ9 : h9.get h.nx = some (.cells oz 45 false) := by rw [← hh9, put_ne (by omega)]; exact gZ8
        have hxh9 : Ext h h9 := by rw [← hh9]; exact hxh8.put (by omega) _
        have r9 : RdS 5 114 h.nx (h.nx + 1) R6.txt.2 h9 := r8.1.keep (by omega) (by rw [← hh9, put_ne (by omega)]) fun k hk => by rw [← hh9, put_ne (by omega)]
        clear hh9
        have l8 := Rd.txt_len R6
        refine callF_of (txt_spec hS r9 (by omega)) okf ?_
        rintro _ hE ⟨rfl, rE⟩
        have nE := rE.2.1
        have gE : hE.get h5.nx = some (.cells [.int .u64 x1, .int .u64 x2, .int .u16 st, .int .u16 x4, .str R6.txt.1, .nilslice] 45 false) := by rw [rE.2.2 _ (by omega) (by omega)]; exact g9
        have gZE : hE.get h.nx = some (.cells oz 45 false) := by rw [rE.2.2 _ (by omega) (by omega)]; exact gZ9
        have hxhE : Ext h hE := But.ext hxh9 rE.2 (by omega)
        have qE : ¬ h5.nx = hE.nx := by omega
        simp +contextual (disch := first | (simp only [fq]; done) | omega | (simp only [Knx]; omega) | (apply Nat.le_antisymm <;> simp only [Knx] <;> omega) | fail) only [wpy, fW, reduceLE, reduceLT, reduceLeDiff, UInt8.reduceToNat, ↓reduceIte, reduceEqDiff, reduceAdd, reduceCtorEq, reduceToNat, Try.f67, gE, qE]
        refine ⟨.inr (by omega), ?_, (hxhE.push _).put (by omega) _, ?_, by omega, _, rfl, ?_, fun k hk o n m q => by injection q; omega⟩
        · exact rE.1.keep (by simp only [put_nx, push_nx]; omega) (by rw [put_ne (by omega), push_ne (by omega)]) fun k hk => by rw [put_ne (by omega), push_ne (by omega)]
        · exact gZE
        · have hbt : ∀ x ∈ R6.txt.2.txt.1, x < 256 := by
            obtain ⟨⟨v9, _, hb9, _⟩, _⟩ := r9
            exact txt_bytes hb9.1
          exact ⟨hbt, .inr ⟨hE.nx, 0, _, rfl, by simp only [put_nx, push_nx]; omega, Nat.le_refl _, by rw [put_ne (by omega), push_eq rfl]; exact rdC_all (bytesV_length _), fun kc e' fl q hf => by rw [put_ne (by omega), push_eq rfl] at q; cases q; rfl⟩⟩
      · have hlen := hb5.len 5
        by_cases hb0 : R6.bs = []
        · have hI : okI R6 (sessP c) (trkP c st) = ([], []) := by unfold okI; rw [if_neg he, if_pos hs, if_neg ht, if_neg (fun q => q hb0)]
          rw [hRb, if_neg he, if_pos hs, if_neg ht, if_neg (fun q => q hb0), hI]
          have hb1 : ¬ 0 < R6.bs.length := by rw [hb0]; decide
          simp +contextual (disch := first | (simp only [fq]; done) | omega | (simp only [Knx]; omega) | (apply Nat.le_antisymm <;> simp only [Knx] <;> omega) | fail) only [wpy, fW, reduceLE, reduceLT, reduceLeDiff, UInt8.reduceToNat, ↓reduceIte, reduceEqDiff, reduceAdd, reduceCtorEq, reduceToNat, Try.f67, ht, gRD, hlen, hb1]
          exact ⟨rD, hxhD, gZD, by omega, .nilslice, gD, BS.nil _ _, fun k _ o n m q => by cases q⟩
        · have hI : okI R6 (sessP c) (trkP c st) = (R6.txt.1, []) := by unfold okI; rw [if_neg he, if_pos hs, if_neg ht, if_pos hb0]
          rw [hRb, if_neg he, if_pos hs, if_neg ht, if_pos hb0, hI]
          have hb1 : 0 < R6.bs.length := List.length_pos_iff.2 hb0
          simp +contextual (disch := first | (simp only [fq]; done) | omega | (simp only [Knx]; omega) | (apply Nat.le_antisymm <;> simp only [Knx] <;> omega) | fail) only [wpy, fW, reduceLE, reduceLT, reduceLeDiff, UInt8.reduceToNat, ↓reduceIte, reduceEqDiff, reduceAdd, reduceCtorEq, reduceToNat, Try.f67, ht, gRD, hlen, hb1]
          refine callF_of (txt_spec hS rD (by omega)) okf ?_
          rintro _ h8 ⟨rfl, r8⟩
          have n8 := r8.2.1
          have g8 : h8.get h5.nx = some (.cells [.int .u64 x1, .int .u64 x2, .int .u16 st, .int .u16 x4, .str [], .nilslice] 45 false) := by rw [r8.2.2 _ (by omega) (by omega)]; exact gD
          have gZ8 : h8.get h.nx = some (.cells oz 45 false) := by rw [r8.2.2 _ (by omega) (by omega)]; exact gZD
          have hxh8 : Ext h h8 := But.ext hxhD r8.2 (by omega)
          simp +contextual (disch := first | (simp only [fq]; done) | omega | (simp only [Knx]; omega) | (apply Nat.le_antisymm <;> simp only [Knx] <;> omega) | fail) only [wpy, fW, reduceLE, reduceLT, reduceLeDiff, UInt8.reduceToNat, ↓reduceIte, reduceEqDiff, reduceAdd, reduceCtorEq, reduceToNat, Try.f67, g8]
          refine ⟨.inr (by omega), ?_, hxh8.put (by omega) _, ?_, by omega, .nilslice, rfl, BS.nil _ _, fun k _ o n m q => by cases q⟩
          · exact r8.1.keep (Nat.le_refl _) (by rw [put_ne (by omega)]) fun k hk => by rw [put_ne (by omega)]
          · exact gZ8
    · have hI : okI R6 (sessP c) (trkP c st) = (R6.bs, []) := by unfold okI; rw [if_neg he, if_neg hs]
      rw [hRb, if_neg he, if_neg hs, hI]
      have hs' : ¬ hasP c 8388608 := hs
      simp +contextual (disch := first | (simp only [fq]; done) | omega | (simp only [Knx]; omega) | (apply Nat.le_antisymm <;> simp only [Knx] <;> omega) | fail) only [wpy, fW, reduceLE, reduceLT, reduceLeDiff, UInt8.reduceToNat, ↓reduceIte, reduceEqDiff, reduceAdd, reduceCtorEq, reduceToNat, Try.f67, hs']
      refine callF_of (rest_spec hS rC l7) okf ?_
      rintro w8 h8 ⟨hw8, r8⟩
      have n8 := r8.2.1
      have g8 : h8.get h5.nx = some (.cells [.int .u64 x1, .int .u64 x2, .int .u16 st, .int .u16 x4, .str [], .nilslice] 45 false) := by rw [r8.2.2 _ (by omega) (by omega)]; exact gC
      have gZ8 : h8.get h.nx = some (.cells oz 45 false) := by rw [r8.2.2 _ (by omega) (by omega)]; exact gZC
      have hxh8 : Ext h h8 := But.ext hxhC r8.2 (by omega)
      obtain ⟨L8, _, hc8⟩ := hw8.str
      simp +contextual (disch := first | (simp only [fq]; done) | omega | (simp only [Knx]; omega) | (apply Nat.le_antisymm <;> simp only [Knx] <;> omega) | fail) only [wpy, fW, reduceLE, reduceLT, reduceLeDiff, UInt8.reduceToNat, ↓reduceIte, reduceEqDiff, reduceAdd, reduceCtorEq, reduceToNat, Try.f67, hc8, g8]
      refine ⟨.inr (by omega), ?_, hxh8.put (by omega) _, ?_, by omega, .nilslice, rfl, BS.nil _ _, fun k _ o n m q => by cases q⟩
      · exact r8.1.keep (Nat.le_refl _) (by rw [put_ne (by omega)]) fun k hk => by rw [put_ne (by omega)]
      · exact gZ8
  · rintro env' h6 ⟨e4, e6, e7, r6, hx6, gZ6, hn6, y, gO6, hy, hyo⟩
    obtain ⟨yc1, yc2⟩ := hy.cell
    simp +contextual (disch := first | (simp only [fq]; done) | omega | (simp only [Knx]; omega) | (apply Nat.le_antisymm <;> simp only [Knx] <;> omega) | fail) only [wpy, fW, reduceLE, reduceLT, reduceLeDiff, UInt8.reduceToNat, ↓reduceIte, reduceEqDiff, reduceAdd, reduceCtorEq, reduceToNat, Try.f67, e4, e6, e7]
    refine callF_of (over_spec hS r6) okf ?_
    rintro _ h7 ⟨rfl, r7⟩
    have gZ7 : h7.get h.nx = some (.cells oz 45 false) := by rw [r7.2.2 _ (by omega) (by omega)]; exact gZ6
    unfold oz at gZ7
    have gO7 : h7.get h5.nx = some (.cells [.int .u64 x1, .int .u64 x2, .int .u16 st, .int .u16 x4, .str (okI R6 (sessP c) (trkP c st)).1, y] 45 false) := by rw [r7.2.2 _ hn6 (by omega)]; exact gO6
    have hx7 : Ext h h7 := But.ext hx6 r7.2 (by omega)
    have hy7 : BS 5 h7 y (okI R6 (sessP c) (trkP c st)).2 := hy.keep r7.2.1 fun k hk ⟨o, n, m, q⟩ => r7.2.2 k hk fun e => hyo k (by omega) o n m q
    by_cases he : (overF (okR l (sessP c) (trkP c st))).e = 0
    · have he' := eq_true he
      have he2 : (okR l (sessP c) (trkP c st)).over.e = 0 := he
      rw [if_pos he2]
      unfold OkV.cells
      simp +contextual (disch := first | (simp only [fq]; done) | omega | (simp only [Knx]; omega) | (apply Nat.le_antisymm <;> simp only [Knx] <;> omega) | fail) only [wpy, fW, reduceLE, reduceLT, reduceLeDiff, UInt8.reduceToNat, ↓reduceIte, reduceEqDiff, reduceAdd, reduceCtorEq, reduceToNat, Try.f67, e4, e6, e7, gZ7, gO7, he', he2, yc1, yc2]
      exact ⟨hx7.put (Nat.le_refl _) _, y, rfl, hy7.put (hyo _ (by omega)), fun k hk => hyo k (by omega)⟩
    · have he2 : ¬ (okR l (sessP c) (trkP c st)).over.e = 0 := he
      rw [if_neg he2]
      unfold OkV.cells OkV.z
      simp +contextual (disch := first | (simp only [fq]; done) | omega | (simp only [Knx]; omega) | (apply Nat.le_antisymm <;> simp only [Knx] <;> omega) | fail) only [wpy, fW, reduceLE, reduceLT, reduceLeDiff, UInt8.reduceToNat, ↓reduceIte, reduceEqDiff, reduceAdd, reduceCtorEq, reduceToNat, Try.f67, e4, e6, e7, gZ7, gO7, he]
      exact ⟨hx7.put (Nat.le_refl _) _, .nilslice, rfl, BS.nil _ _, fun k _ o n m q => by cases q⟩
end
noncomputable section
structure GS (tt : TypeId) (z : List V) (h : H) (o : Nat) (R : Rd) (cs : List V) (h' : H) : Prop where
  rd : RdS 5 114 h.nx (h.nx + 1) R h'
  ext : Ext h h'
  z : h'.get h.nx = some (.cells z tt false)
  ob : h'.get o = some (.cells cs tt false)
  lt : h.nx + 1 < o ∧ o < h'.nx
theorem GS.call {tt : TypeId} {z : List V} {h : H} {o : Nat} {R R1 : Rd} {cs : List V} {h1 h2 : H} (a : GS tt z h o R cs h1) (b : RdR 114 h.nx (h.nx + 1) R1 h1 h2) : GS tt z h o R1 cs h2 := by
  have l1 := a.lt
  have n2 := b.2.1
  exact ⟨b.1, But.ext a.ext b.2 (by omega), by rw [b.2.2 _ (by omega) (by omega)]; exact a.z, by rw [b.2.2 _ (by omega) (by omega)]; exact a.ob, by omega, by omega⟩
theorem GS.put {tt : TypeId} {z : List V} {h : H} {o : Nat} {R : Rd} {cs : List V} {h1 : H} (a : GS tt z h o R cs h1) (cs' : List V) : GS tt z h o R cs' (h1.put o (.cells cs' tt false)) := by
  have l1 := a.lt
  exact ⟨a.rd.keep (Nat.le_refl _) (put_ne (by omega)) fun k hk => put_ne (by omega), a.ext.put (by omega) _, by rw [put_ne (by omega)]; exact a.z, put_eq rfl, l1⟩
theorem GS.ext2 {tt : TypeId} {z : List V} {h : H} {o : Nat} {R : Rd} {cs : List V} {h1 h2 : H} (a : GS tt z h o R cs h1) (hx : Ext h1 h2) : GS tt z h o R cs h2 := by
  have l1 := a.lt
  exact ⟨a.rd.ext hx, a.ext.trans hx, by rw [hx.2 _ (by omega)]; exact a.z, by rw [hx.2 _ (by omega)]; exact a.ob, l1.1, Nat.lt_of_lt_of_le l1.2 hx.1⟩
theorem bs_one {h : H} (c k : Nat) (hk : k = h.nx) (hc : c < 256) : BS 5 (h.push (.cells [.int .u8 c] 5 false)) (.slice k 0 1 1) [c] := by
  refine ⟨fun x hx => by rw [List.mem_singleton.1 hx]; exact hc, .inr ⟨k, 0, 1, rfl, by rw [hk]; exact Nat.lt_succ_self _, Nat.le_refl _, ?_, fun kc e' fl q hf => ?_⟩⟩
  · rw [push_eq hk]; rfl
  · rw [push_eq hk] at q; cases q; cases hf
theorem must_one (x : Int) (c : Nat) (hx : 0 ≤ x) : (idxNats [c] x.toNat < 0) = (x ≠ c) := by
  obtain ⟨n, rfl⟩ : ∃ n : Nat, x = n := ⟨x.toNat, by omega⟩
  rw [Int.toNat_natCast]
  by_cases h0 : n = c
  · subst h0
    have : idxNats [n] n = 0 := by simp [idxNats]
    rw [this]
    exact propext ⟨fun q => absurd q (by decide), fun q => absurd rfl q⟩
  · have e0 : (c == n) = false := by simpa using fun q => h0 q.symm
    have e : idxNats [c] n = -1 := by simp [idxNats, e0]
    rw [e]
    exact propext ⟨fun _ q => h0 (by omega), fun _ => by decide⟩
theorem must_ok {c : Nat} {t : List Nat} (hb : ∀ x ∈ c :: t, x < 256) : mustF ⟨c :: t, 0⟩ [c] = ⟨t, 0⟩ := by
  have hf := Rd.byt_fix (R := ⟨c :: t, 0⟩) hb
  unfold mustF
  rw [hf.1, hf.2, must_one _ _ (Rd.byt_in (R := ⟨c :: t, 0⟩) hb).1]
  have e : (Rd.mk (c :: t) 0).byt = ((c : Int), ⟨t, 0⟩) := rfl
  rw [e]
  exact Rd.bad_no fun q => q.2 rfl
theorem must_no {c d : Nat} {t : List Nat} (hb : ∀ x ∈ c :: t, x < 256) (hne : c ≠ d) : mustF ⟨c :: t, 0⟩ [d] = ⟨t, 5⟩ := by
  have hf := Rd.byt_fix (R := ⟨c :: t, 0⟩) hb
  unfold mustF
  rw [hf.1, hf.2, must_one _ _ (Rd.byt_in (R := ⟨c :: t, 0⟩) hb).1]
  have e : (Rd.mk (c :: t) 0).byt = ((c : Int), ⟨t, 0⟩) := rfl
  rw [e]
  exact Rd.bad_yes ⟨rfl, by show (c : Int) ≠ d; omega⟩
theorem mustF_len (R : Rd) (ls : List Nat) : (mustF R ls).bs.length ≤ R.bs.length := by
  unfold mustF
  rw [Rd.bad_bs]
  exact Rd.fix_len _ _
theorem u16_wrap_in (n : Int) : 0 ≤ IntKind.u16.wrap n ∧ IntKind.u16.wrap n < 65536 := by
  rw [IntKind.wrap_u16]; omega
def eofG (R : Rd) : Int × Int × Int := @ite _ ((overF ((R.fix 2).2.fix 2).2).e = 0) (Classical.propDecidable _) (IntKind.u16.wrap (R.fix 2).1, IntKind.u16.wrap ((R.fix 2).2.fix 2).1, 0) (0, 0, (overF ((R.fix 2).2.fix 2).2).e)
def eofF (l : List Nat) : Int × Int × Int := eofG (mustF ⟨l, 0⟩ [254])
theorem eofF_err {l t : List Nat} (hb : ∀ x ∈ l, x < 256) (h : l = 255 :: t) : (eofF l).2.2 ≠ 0 := by
  have h0 : (mustF ⟨l, 0⟩ [254]).e ≠ 0 := by
    have hb : ∀ x ∈ 255 :: t, x < 256 := by rw [← h]; exact hb
    rw [h, must_no hb (by decide)]
    show (5 : Int) ≠ 0
    decide
  unfold eofF
  generalize mustF ⟨l, 0⟩ [254] = R2 at *
  have q : (overF ((R2.fix 2).2.fix 2).2).e ≠ 0 := by
    rw [Rd.fix_err 2 h0, Rd.fix_err 2 h0]
    show (R2.bad _).e ≠ 0
    rw [Rd.bad_no fun w => h0 w.1]
    exact h0
  unfold eofG
  rw [if_neg q]
  exact q
def prepH (R2 R3 R4 R6 : Int × Rd) : Int × Int × Int × Int × Int := @ite _ ((overF R6.2).e = 0) (Classical.propDecidable _) (IntKind.u32.wrap R2.1, IntKind.u16.wrap R3.1, IntKind.u16.wrap R4.1, IntKind.u16.wrap R6.1, 0) (0, 0, 0, 0, (overF R6.2).e)
def prepG (R : Rd) : Int × Int × Int × Int × Int := prepH (R.fix 4) ((R.fix 4).2.fix 2) (((R.fix 4).2.fix 2).2.fix 2) ((mustF (((R.fix 4).2.fix 2).2.fix 2).2 [0]).fix 2)
def prepF (l : List Nat) : Int × Int × Int × Int × Int := prepG (mustF ⟨l, 0⟩ [0])
theorem prepF_in (l : List Nat) : 0 ≤ (prepF l).2.1 ∧ (prepF l).2.1 < 65536 ∧ 0 ≤ (prepF l).2.2.1 ∧ (prepF l).2.2.1 < 65536 := by
  unfold prepF prepG prepH
  split
  · have a := u16_wrap_in ((((mustF ⟨l, 0⟩ [0]).fix 4).2.fix 2).1)
    have b := u16_wrap_in ((((mustF ⟨l, 0⟩ [0]).fix 4).2.fix 2).2.fix 2).1
    exact ⟨a.1, a.2, b.1, b.2⟩
  · exact ⟨Int.le_refl 0, (by decide : (0 : Int) < 65536), Int.le_refl 0, (by decide : (0 : Int) < 65536)⟩
structure StdG (S : Set0) : Prop extends StdB S where
  ownG : ∀ f, f ∈ [68, 63, 56, 52, 58, 43, 24, 10] → sums S.exts f = none
variable {S : Set0} (hS : StdG S)
include hS
theorem readeof_spec {v : V} {l : List Nat} {h : H} (a : BS 5 h v l) (hl : l.length < 2 ^ 28) : Pure S.cfg 68 [v] h fun w _ => w = .tuple [.agg [.int .u16 (eofF l).1, .int .u16 (eofF l).2.1], .int .i64 (eofF l).2.2] := by
  refine into Try.f68 _ Try.func68 (hS.ownG _ (by decide)) rfl rfl (by kernel_rfl) (by kernel_rfl) ?_
  obtain ⟨c1, c2⟩ := a.cell
  simp +contextual (disch := first | (simp only [fq]; done) | omega | (simp only [Knx]; omega) | (apply Nat.le_antisymm <;> simp only [Knx] <;> omega) | fail) only [wpy, fW, reduceLE, reduceLT, reduceLeDiff, UInt8.reduceToNat, ↓reduceIte, reduceEqDiff, reduceAdd, reduceCtorEq, reduceToNat, Try.f68, c1, c2]
  generalize hhA : H.push (H.push h _) _ = hA
  have hxA : Ext h hA := by rw [← hhA]; exact ((Ext.refl h).push _).push _
  have hnA : hA.nx = h.nx + 2 := by rw [← hhA]; rfl
  have gR : hA.get (h.nx + 1) = some (.cells [v, .int .i64 0] 114 false) := by rw [← hhA]; exact push_eq rfl
  have gZ : hA.get h.nx = some (.cells [.int .u16 0, .int .u16 0] 47 false) := by rw [← hhA, push_ne (by simp only [push_nx]; omega)]; exact push_eq rfl
  clear hhA
  have a2 : RdS 5 114 h.nx (h.nx + 1) ⟨l, 0⟩ hA := ⟨⟨v, gR, a.ext hxA, fun k hk => a.off hk⟩, by omega, by omega⟩
  have okf : ∀ k, k = h.nx + 1 → fresh h.nx nil1 k := fun k hk => by rw [fresh_def]; exact .inl (by omega)
  have al := bs_one (h := hA) 254 (h.nx + 1 + 1) (by omega) (by decide)
  refine callF_of (must_spec hS.toStdB (a2.ext ((Ext.refl hA).push _)) (by show l.length < _; omega) al (fun o n m q => by injection q; omega)) okf ?_
  rintro w1 h1 r1
  have r1 : RdR 114 h.nx (h.nx + 1) (mustF ⟨l, 0⟩ [254]) hA h1 := ⟨r1.1, (But.of_ext ((Ext.refl hA).push _)).trans r1.2⟩
  have l2 : (mustF ⟨l, 0⟩ [254]).bs.length ≤ l.length := mustF_len _ _
  have hF : eofF l = eofG (mustF ⟨l, 0⟩ [254]) := rfl
  rw [hF]
  clear hF
  generalize mustF ⟨l, 0⟩ [254] = R2 at *
  simp +contextual (disch := first | (simp only [fq]; done) | omega | (simp only [Knx]; omega) | (apply Nat.le_antisymm <;> simp only [Knx] <;> omega) | fail) only [wpy, fW, reduceLE, reduceLT, reduceLeDiff, UInt8.reduceToNat, ↓reduceIte, reduceEqDiff, reduceAdd, reduceCtorEq, reduceToNat, Try.f68]
  refine callF_of (fix_spec hS.toStdB r1.1 (by omega) 2 (by omega)) okf ?_
  have l3 := Rd.fix_len R2 2
  rintro _ h2 ⟨rfl, r2⟩
  simp +contextual (disch := first | (simp only [fq]; done) | omega | (simp only [Knx]; omega) | (apply Nat.le_antisymm <;> simp only [Knx] <;> omega) | fail) only [wpy, fW, reduceLE, reduceLT, reduceLeDiff, UInt8.reduceToNat, ↓reduceIte, reduceEqDiff, reduceAdd, reduceCtorEq, reduceToNat, Try.f68]
  refine callF_of (fix_spec hS.toStdB r2.1 (by omega) 2 (by omega)) okf ?_
  rintro _ h3 ⟨rfl, r3⟩
  have n1 := r1.2.1
  have n2 := r2.2.1
  have n3 := r3.2.1
  have b3 : But (h.nx + 1) hA h3 := (r1.2.trans r2.2).trans r3.2
  simp +contextual (disch := first | (simp only [fq]; done) | omega | (simp only [Knx]; omega) | (apply Nat.le_antisymm <;> simp only [Knx] <;> omega) | fail) only [wpy, fW, reduceLE, reduceLT, reduceLeDiff, UInt8.reduceToNat, ↓reduceIte, reduceEqDiff, reduceAdd, reduceCtorEq, reduceToNat, Try.f68]
  refine ⟨.inr (by omega), ?_⟩
  generalize hhC : H.put _ _ _ = hC
  have hxC : Ext h3 hC := by rw [← hhC]; exact Ext.new _ _ _
  have hnC : hC.nx = h3.nx + 1 := by rw [← hhC]; rfl
  have fC : GS 47 [.int .u16 0, .int .u16 0] h h3.nx ((R2.fix 2).2.fix 2).2 [.int .u16 (IntKind.u16.wrap (R2.fix 2).1), .int .u16 (IntKind.u16.wrap ((R2.fix 2).2.fix 2).1)] hC := ⟨r3.1.ext hxC, But.ext hxA (b3.trans (But.of_ext hxC)) (by omega), by rw [hxC.2 _ (by omega), b3.2 _ (by omega) (by omega)]; exact gZ, by rw [← hhC]; exact put_eq rfl, by omega, by omega⟩
  clear hhC
  refine callF_of (over_spec hS.toStdB fC.rd) okf ?_
  rintro _ h4 ⟨rfl, r4⟩
  have f4 := fC.call r4
  have gZ4 := f4.z
  have gO4 := f4.ob
  have n4 := f4.lt
  by_cases he : (overF ((R2.fix 2).2.fix 2).2).e = 0
  · have he' := eq_true he
    unfold eofG
    rw [if_pos he]
    simp +contextual (disch := first | (simp only [fq]; done) | omega | (simp only [Knx]; omega) | (apply Nat.le_antisymm <;> simp only [Knx] <;> omega) | fail) only [wpy, fW, reduceLE, reduceLT, reduceLeDiff, UInt8.reduceToNat, ↓reduceIte, reduceEqDiff, reduceAdd, reduceCtorEq, reduceToNat, Try.f68, gZ4, gO4, he']
    exact f4.ext.put (Nat.le_refl _) _
  · unfold eofG
    rw [if_neg he]
    simp +contextual (disch := first | (simp only [fq]; done) | omega | (simp only [Knx]; omega) | (apply Nat.le_antisymm <;> simp only [Knx] <;> omega) | fail) only [wpy, fW, reduceLE, reduceLT, reduceLeDiff, UInt8.reduceToNat, ↓reduceIte, reduceEqDiff, reduceAdd, reduceCtorEq, reduceToNat, Try.f68, gZ4, gO4, he]
    exact f4.ext.put (Nat.le_refl _) _
theorem readprep_spec {v : V} {l : List Nat} {h : H} (a : BS 5 h v l) (hl : l.length < 2 ^ 28) : Pure S.cfg 56 [v] h fun w _ => w = .tuple [.agg [.int .u32 (prepF l).1, .int .u16 (prepF l).2.1, .int .u16 (prepF l).2.2.1, .int .u16 (prepF l).2.2.2.1], .int .i64 (prepF l).2.2.2.2] := by
  refine into Try.f56 _ Try.func56 (hS.ownG _ (by decide)) rfl rfl (by kernel_rfl) (by kernel_rfl) ?_
  obtain ⟨c1, c2⟩ := a.cell
  simp +contextual (disch := first | (simp only [fq]; done) | omega | (simp only [Knx]; omega) | (apply Nat.le_antisymm <;> simp only [Knx] <;> omega) | fail) only [wpy, fW, reduceLE, reduceLT, reduceLeDiff, UInt8.reduceToNat, ↓reduceIte, reduceEqDiff, reduceAdd, reduceCtorEq, reduceToNat, Try.f56, c1, c2]
  generalize hhA : H.push (H.push h _) _ = hA
  have hxA : Ext h hA := by rw [← hhA]; exact ((Ext.refl h).push _).push _
  have hnA : hA.nx = h.nx + 2 := by rw [← hhA]; rfl
  have gR : hA.get (h.nx + 1) = some (.cells [v, .int .i64 0] 114 false) := by rw [← hhA]; exact push_eq rfl
  have gZ : hA.get h.nx = some (.cells [.int .u32 0, .int .u16 0, .int .u16 0, .int .u16 0] 49 false) := by rw [← hhA, push_ne (by simp only [push_nx]; omega)]; exact push_eq rfl
  clear hhA
  have a2 : RdS 5 114 h.nx (h.nx + 1) ⟨l, 0⟩ hA := ⟨⟨v, gR, a.ext hxA, fun k hk => a.off hk⟩, by omega, by omega⟩
  have okf : ∀ k, k = h.nx + 1 → fresh h.nx nil1 k := fun k hk => by rw [fresh_def]; exact .inl (by omega)
  have al := bs_one (h := hA) 0 (h.nx + 1 + 1) (by omega) (by decide)
  refine callF_of (must_spec hS.toStdB (a2.ext ((Ext.refl hA).push _)) (by show l.length < _; omega) al (fun o n m q => by injection q; omega)) okf ?_
  rintro w1 h1 r1
  have r1 : RdR 114 h.nx (h.nx + 1) (mustF ⟨l, 0⟩ [0]) hA h1 := ⟨r1.1, (But.of_ext ((Ext.refl hA).push _)).trans r1.2⟩
  have l2 : (mustF ⟨l, 0⟩ [0]).bs.length ≤ l.length := mustF_len _ _
  have hF : prepF l = prepG (mustF ⟨l, 0⟩ [0]) := rfl
  rw [hF]
  clear hF
  generalize mustF ⟨l, 0⟩ [0] = R2 at *
  unfold prepG
  simp +contextual (disch := first | (simp only [fq]; done) | omega | (simp only [Knx]; omega) | (apply Nat.le_antisymm <;> simp only [Knx] <;> omega) | fail) only [wpy, fW, reduceLE, reduceLT, reduceLeDiff, UInt8.reduceToNat, ↓reduceIte, reduceEqDiff, reduceAdd, reduceCtorEq, reduceToNat, Try.f56]
  refine callF_of (fix_spec hS.toStdB r1.1 (by omega) 4 (by omega)) okf ?_
  have l3 := Rd.fix_len R2 4
  rintro _ h2 ⟨rfl, r2⟩
  simp +contextual (disch := first | (simp only [fq]; done) | omega | (simp only [Knx]; omega) | (apply Nat.le_antisymm <;> simp only [Knx] <;> omega) | fail) only [wpy, fW, reduceLE, reduceLT, reduceLeDiff, UInt8.reduceToNat, ↓reduceIte, reduceEqDiff, reduceAdd, reduceCtorEq, reduceToNat, Try.f56]
  refine callF_of (fix_spec hS.toStdB r2.1 (by omega) 2 (by omega)) okf ?_
  have l4 := Rd.fix_len (R2.fix 4).2 2
  rintro _ h3 ⟨rfl, r3⟩
  simp +contextual (disch := first | (simp only [fq]; done) | omega | (simp only [Knx]; omega) | (apply Nat.le_antisymm <;> simp only [Knx] <;> omega) | fail) only [wpy, fW, reduceLE, reduceLT, reduceLeDiff, UInt8.reduceToNat, ↓reduceIte, reduceEqDiff, reduceAdd, reduceCtorEq, reduceToNat, Try.f56]
  refine callF_of (fix_spec hS.toStdB r3.1 (by omega) 2 (by omega)) okf ?_
  have l5 := Rd.fix_len ((R2.fix 4).2.fix 2).2 2
  rintro _ h4 ⟨rfl, r4⟩
  have n1 := r1.2.1
  have n2 := r2.2.1
  have n3 := r3.2.1
  have n4 := r4.2.1
  have b4 : But (h.nx + 1) hA h4 := ((r1.2.trans r2.2).trans r3.2).trans r4.2
  simp +contextual (disch := first | (simp only [fq]; done) | omega | (simp only [Knx]; omega) | (apply Nat.le_antisymm <;> simp only [Knx] <;> omega) | fail) only [wpy, fW, reduceLE, reduceLT, reduceLeDiff, UInt8.reduceToNat, ↓reduceIte, reduceEqDiff, reduceAdd, reduceCtorEq, reduceToNat, Try.f56]
  refine ⟨.inr (by omega), ?_⟩
  have wy := u16_wrap_in ((R2.fix 4).2.fix 2).1
  have wz := u16_wrap_in (((R2.fix 4).2.fix 2).2.fix 2).1
  generalize hhC : H.put _ _ _ = hC
  have hxC : Ext h4 hC := by rw [← hhC]; exact Ext.new _ _ _
  have hnC : hC.nx = h4.nx + 1 := by rw [← hhC]; rfl
  have fC : GS 49 [.int .u32 0, .int .u16 0, .int .u16 0, .int .u16 0] h h4.nx (((R2.fix 4).2.fix 2).2.fix 2).2 [.int .u32 (IntKind.u32.wrap (R2.fix 4).1), .int .u16 (IntKind.u16.wrap ((R2.fix 4).2.fix 2).1), .int .u16 (IntKind.u16.wrap (((R2.fix 4).2.fix 2).2.fix 2).1), .int .u16 0] hC := ⟨r4.1.ext hxC, But.ext hxA (b4.trans (But.of_ext hxC)) (by omega), by rw [hxC.2 _ (by omega), b4.2 _ (by omega) (by omega)]; exact gZ, by rw [← hhC]; exact put_eq rfl, by omega, by omega⟩
  clear hhC
  generalize hR5 : (((R2.fix 4).2.fix 2).2.fix 2).2 = R5 at *
  have al2 := bs_one (h := hC) 0 (h4.nx + 1) (by omega) (by decide)
  have fD := fC.ext2 ((Ext.refl hC).push (.cells [.int .u8 (0 : Nat)] 5 false))
  refine callF_of (must_spec hS.toStdB fD.rd (by omega) al2 (fun o n m q => by injection q; have := fC.lt; omega)) okf ?_
  have l6 := mustF_len R5 [0]
  rintro _ h5 r5
  have f5 := fD.call r5
  generalize mustF R5 [0] = R6 at *
  simp +contextual (disch := first | (simp only [fq]; done) | omega | (simp only [Knx]; omega) | (apply Nat.le_antisymm <;> simp only [Knx] <;> omega) | fail) only [wpy, fW, reduceLE, reduceLT, reduceLeDiff, UInt8.reduceToNat, ↓reduceIte, reduceEqDiff, reduceAdd, reduceCtorEq, reduceToNat, Try.f56]
  refine callF_of (fix_spec hS.toStdB f5.rd (by omega) 2 (by omega)) okf ?_
  rintro _ h6 ⟨rfl, r6⟩
  have f6 := f5.call r6
  have g6 := f6.ob
  have n6 := f6.lt
  simp +contextual (disch := first | (simp only [fq]; done) | omega | (simp only [Knx]; omega) | (apply Nat.le_antisymm <;> simp only [Knx] <;> omega) | fail) only [wpy, fW, reduceLE, reduceLT, reduceLeDiff, UInt8.reduceToNat, ↓reduceIte, reduceEqDiff, reduceAdd, reduceCtorEq, reduceToNat, Try.f56, g6]
  refine ⟨.inr (by omega), callF_of (over_spec hS.toStdB (f6.put _).rd) okf ?_⟩
  rintro _ h7 ⟨rfl, r7⟩
  have f7 := (f6.put _).call r7
  have gZ7 := f7.z
  have gO7 := f7.ob
  by_cases he : (overF (R6.fix 2).2).e = 0
  · have he' := eq_true he
    unfold prepH
    rw [if_pos he]
    simp +contextual (disch := first | (simp only [fq]; done) | omega | (simp only [Knx]; omega) | (apply Nat.le_antisymm <;> simp only [Knx] <;> omega) | fail) only [wpy, fW, reduceLE, reduceLT, reduceLeDiff, UInt8.reduceToNat, ↓reduceIte, reduceEqDiff, reduceAdd, reduceCtorEq, reduceToNat, Try.f56, gZ7, gO7, he']
    exact f7.ext.put (Nat.le_refl _) _
  · unfold prepH
    rw [if_neg he]
    simp +contextual (disch := first | (simp only [fq]; done) | omega | (simp only [Knx]; omega) | (apply Nat.le_antisymm <;> simp only [Knx] <;> omega) | fail) only [wpy, fW, reduceLE, reduceLT, reduceLeDiff, UInt8.reduceToNat, ↓reduceIte, reduceEqDiff, reduceAdd, reduceCtorEq, reduceToNat, Try.f56, gZ7, gO7, he]
    exact f7.ext.put (Nat.le_refl _) _
end
end Go.Proofs.Ytinbhlejofgomaa
