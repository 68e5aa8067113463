/-
  Several texts of one walk, joined.
-/
import Derived.Test.YtfgnpegkcmkeaaaGreatDoorProg
import Derived.Test.YtfgnpegkcmkeaaaGreatDoorWxZ
import Derived.Test.YtfgnpegkcmkeaaaGreatDoorLyJ
set_option maxRecDepth 100000
set_option linter.defProp false
set_option linter.unusedSimpArgs false
set_option linter.unusedVariables false
namespace Go.Proofs.YtfgnpegkcmkeaaaGreatDoor
open Go.Proofs Go.Lx Go.Wx
noncomputable section
theorem oM {P : Prop} (h : P := by omega) : P := h
theorem dC {P : Prop} (h : P := by decide) : P := h
theorem kR {P : Prop} (h : P := by kernel_rfl) : P := h
theorem ze24 : zeroL Tryz.prog 24 = some [.int .i64 0, .int .i64 0] := kR
theorem sz24 : szT Tryz.prog 24 = some 2 := kR
theorem ty37 : tyR Tryz.prog 37 = some (7, true) := kR
theorem bs48_1 (v0_0 : V) : buildSliceL Tryz.prog 48 1 [(0, [v0_0])] = some ([v0_0], 5) := kR
theorem bs48_2 (v0_0 v1_0 : V) : buildSliceL Tryz.prog 48 2 [(0, [v0_0]), (1, [v1_0])] = some ([v0_0, v1_0], 5) := kR
theorem bs38_2 (v0_0 v1_0 : V) : buildSliceL Tryz.prog 38 2 [(0, [v0_0]), (1, [v1_0])] = some ([v0_0, v1_0], 9) := kR
theorem ia39 (k o n m : Nat) (kd : IntKind) (i : Int) : indexAddrV Tryz.prog 39 (.slice k o n m) (.int kd i) = if 0 ≤ i ∧ i < n then some (.ptr k (o + i.toNat * 1)) else none := indexAddr_slice (e := 38) kR kR k o n m kd i
theorem ty38 : tyR Tryz.prog 38 = some (1, false) := kR
theorem ia45 (k o n m : Nat) (kd : IntKind) (i : Int) : indexAddrV Tryz.prog 45 (.slice k o n m) (.int kd i) = if 0 ≤ i ∧ i < n then some (.ptr k (o + i.toNat * 1)) else none := indexAddr_slice (e := 48) kR kR k o n m kd i
theorem ty48 : tyR Tryz.prog 48 = some (1, false) := kR
theorem ia48 (k o n m : Nat) (kd : IntKind) (i : Int) : indexAddrV Tryz.prog 48 (.slice k o n m) (.int kd i) = if 0 ≤ i ∧ i < n then some (.ptr k (o + i.toNat * 1)) else none := indexAddr_slice (e := 5) kR kR k o n m kd i
theorem ty5 : tyR Tryz.prog 5 = some (1, false) := kR
theorem ty24 : tyR Tryz.prog 24 = some (2, true) := kR
theorem bu24 : buildV Tryz.prog 24 [] = some (.agg [.int .i64 0, .int .i64 0]) := kR
-- eq on type 24
theorem ty52 : tyR Tryz.prog 52 = some (8, true) := kR
theorem fa52_0 (k o : Nat) : fieldAddrV Tryz.prog 52 (.ptr k o) 0 = some (.ptr k (o + 0)) := kR
theorem ze71 : zeroL Tryz.prog 71 = some [.int .i64 0, .bool false, .int .u64 0, .int .u64 0, .int .u16 0, .int .u16 0, .str [], .nilslice, .int .u16 0, .str [], .str [], .int .u16 0, .int .u16 0, .int .u32 0, .int .u16 0, .int .u16 0, .int .u16 0] := kR
theorem sz71 : szT Tryz.prog 71 = some 17 := kR
theorem fa71_1 (k o : Nat) : fieldAddrV Tryz.prog 71 (.ptr k o) 1 = some (.ptr k (o + 1)) := kR
theorem ty4 : tyR Tryz.prog 4 = some (1, false) := kR
-- eq on type 4
theorem fa71_0 (k o : Nat) : fieldAddrV Tryz.prog 71 (.ptr k o) 0 = some (.ptr k (o + 0)) := kR
theorem ty3 : tyR Tryz.prog 3 = some (1, false) := kR
theorem fa52_1 (k o : Nat) : fieldAddrV Tryz.prog 52 (.ptr k o) 1 = some (.ptr k (o + 1)) := kR
theorem ty9 : tyR Tryz.prog 9 = some (1, false) := kR
theorem ze77 : zeroL Tryz.prog 77 = some [.int .i64 0, .int .i64 0] := kR
theorem sz77 : szT Tryz.prog 77 = some 2 := kR
theorem fa77_0 (k o : Nat) : fieldAddrV Tryz.prog 77 (.ptr k o) 0 = some (.ptr k (o + 0)) := kR
theorem ty25 : tyR Tryz.prog 25 = some (1, false) := kR
theorem ia75 (k o n m : Nat) (kd : IntKind) (i : Int) : indexAddrV Tryz.prog 75 (.slice k o n m) (.int kd i) = if 0 ≤ i ∧ i < n then some (.ptr k (o + i.toNat * 3)) else none := indexAddr_slice (e := 81) kR kR k o n m kd i
theorem fa81_0 (k o : Nat) : fieldAddrV Tryz.prog 81 (.ptr k o) 0 = some (.ptr k (o + 0)) := kR
theorem fa81_1 (k o : Nat) : fieldAddrV Tryz.prog 81 (.ptr k o) 1 = some (.ptr k (o + 1)) := kR
theorem ty81 : tyR Tryz.prog 81 = some (3, true) := kR
theorem ze81 : zeroL Tryz.prog 81 = some [.int .i64 0, .str [], .int .i64 0] := kR
theorem sz81 : szT Tryz.prog 81 = some 3 := kR
theorem bs38_1 (v0_0 : V) : buildSliceL Tryz.prog 38 1 [(0, [v0_0])] = some ([v0_0], 9) := kR
theorem ap38 : apI Tryz.prog 38 = some (9, 1, 16) := kR
-- eq on type 83
theorem fa24_1 (k o : Nat) : fieldAddrV Tryz.prog 24 (.ptr k o) 1 = some (.ptr k (o + 1)) := kR
theorem sz3 : szT Tryz.prog 3 = some 1 := kR
theorem ia38 (k o n m : Nat) (kd : IntKind) (i : Int) : indexAddrV Tryz.prog 38 (.slice k o n m) (.int kd i) = if 0 ≤ i ∧ i < n then some (.ptr k (o + i.toNat * 1)) else none := indexAddr_slice (e := 9) kR kR k o n m kd i
theorem fa24_0 (k o : Nat) : fieldAddrV Tryz.prog 24 (.ptr k o) 0 = some (.ptr k (o + 0)) := kR
theorem fa37_0 (k o : Nat) : fieldAddrV Tryz.prog 37 (.ptr k o) 0 = some (.ptr k (o + 0)) := kR
theorem ty2 : tyR Tryz.prog 2 = some (1, false) := kR
theorem fa37_1 (k o : Nat) : fieldAddrV Tryz.prog 37 (.ptr k o) 1 = some (.ptr k (o + 1)) := kR
theorem fa37_2 (k o : Nat) : fieldAddrV Tryz.prog 37 (.ptr k o) 2 = some (.ptr k (o + 2)) := kR
theorem fa37_3 (k o : Nat) : fieldAddrV Tryz.prog 37 (.ptr k o) 3 = some (.ptr k (o + 3)) := kR
theorem ty33 : tyR Tryz.prog 33 = some (1, false) := kR
theorem fa37_4 (k o : Nat) : fieldAddrV Tryz.prog 37 (.ptr k o) 4 = some (.ptr k (o + 4)) := kR
theorem ty32 : tyR Tryz.prog 32 = some (1, false) := kR
theorem fa37_5 (k o : Nat) : fieldAddrV Tryz.prog 37 (.ptr k o) 5 = some (.ptr k (o + 5)) := kR
theorem ty34 : tyR Tryz.prog 34 = some (1, false) := kR
theorem bs38_6 (v0_0 v1_0 v2_0 v3_0 v4_0 v5_0 : V) : buildSliceL Tryz.prog 38 6 [(0, [v0_0]), (1, [v1_0]), (2, [v2_0]), (3, [v3_0]), (4, [v4_0]), (5, [v5_0])] = some ([v0_0, v1_0, v2_0, v3_0, v4_0, v5_0], 9) := kR
theorem bs39_1 (v0_0 : V) : buildSliceL Tryz.prog 39 1 [(0, [v0_0])] = some ([v0_0], 38) := kR
theorem ia32 (k o n m : Nat) (kd : IntKind) (i : Int) : indexAddrV Tryz.prog 32 (.slice k o n m) (.int kd i) = if 0 ≤ i ∧ i < n then some (.ptr k (o + i.toNat * 2)) else none := indexAddr_slice (e := 31) kR kR k o n m kd i
theorem ty31 : tyR Tryz.prog 31 = some (2, true) := kR
theorem ze31 : zeroL Tryz.prog 31 = some [.int .i64 0, .int .i64 0] := kR
theorem sz31 : szT Tryz.prog 31 = some 2 := kR
theorem fa31_0 (k o : Nat) : fieldAddrV Tryz.prog 31 (.ptr k o) 0 = some (.ptr k (o + 0)) := kR
theorem fa31_1 (k o : Nat) : fieldAddrV Tryz.prog 31 (.ptr k o) 1 = some (.ptr k (o + 1)) := kR
theorem ap39 : apI Tryz.prog 39 = some (38, 1, 24) := kR
theorem fa37_6 (k o : Nat) : fieldAddrV Tryz.prog 37 (.ptr k o) 6 = some (.ptr k (o + 6)) := kR
theorem ty35 : tyR Tryz.prog 35 = some (1, false) := kR
theorem ia35 (k o n m : Nat) (kd : IntKind) (i : Int) : indexAddrV Tryz.prog 35 (.slice k o n m) (.int kd i) = if 0 ≤ i ∧ i < n then some (.ptr k (o + i.toNat * 2)) else none := indexAddr_slice (e := 95) kR kR k o n m kd i
theorem ty95 : tyR Tryz.prog 95 = some (2, true) := kR
theorem ze95 : zeroL Tryz.prog 95 = some [.str [], .int .i64 0] := kR
theorem sz95 : szT Tryz.prog 95 = some 2 := kR
theorem fa95_0 (k o : Nat) : fieldAddrV Tryz.prog 95 (.ptr k o) 0 = some (.ptr k (o + 0)) := kR
theorem fa95_1 (k o : Nat) : fieldAddrV Tryz.prog 95 (.ptr k o) 1 = some (.ptr k (o + 1)) := kR
theorem ze52 : zeroL Tryz.prog 52 = some [.int .u8 0, .str [], .int .u32 0, .int .u16 0, .int .u8 0, .int .u32 0, .int .u16 0, .nilslice] := kR
theorem sz52 : szT Tryz.prog 52 = some 8 := kR
theorem ia102 (k o n m : Nat) (kd : IntKind) (i : Int) : indexAddrV Tryz.prog 102 (.slice k o n m) (.int kd i) = if 0 ≤ i ∧ i < n then some (.ptr k (o + i.toNat * 2)) else none := indexAddr_slice (e := 104) kR kR k o n m kd i
theorem ty104 : tyR Tryz.prog 104 = some (2, true) := kR
theorem ze104 : zeroL Tryz.prog 104 = some [.int .u32 0, .int .u32 0] := kR
theorem sz104 : szT Tryz.prog 104 = some 2 := kR
theorem ia104 (k o : Nat) (kd : IntKind) (i : Int) : indexAddrV Tryz.prog 104 (.ptr k o) (.int kd i) = if 0 ≤ i ∧ i < ((2 : Nat) : Int) then some (.ptr k (o + i.toNat * 1)) else none := indexAddr_array (e := 43) kR kR k o kd i
theorem ty43 : tyR Tryz.prog 43 = some (1, false) := kR
theorem ap48 : apI Tryz.prog 48 = some (5, 1, 1) := kR
theorem fa52_5 (k o : Nat) : fieldAddrV Tryz.prog 52 (.ptr k o) 5 = some (.ptr k (o + 5)) := kR
theorem ty42 : tyR Tryz.prog 42 = some (1, false) := kR
theorem fa52_2 (k o : Nat) : fieldAddrV Tryz.prog 52 (.ptr k o) 2 = some (.ptr k (o + 2)) := kR
theorem fa52_4 (k o : Nat) : fieldAddrV Tryz.prog 52 (.ptr k o) 4 = some (.ptr k (o + 4)) := kR
theorem bs48_5 (v0_0 v1_0 v2_0 v3_0 v4_0 : V) : buildSliceL Tryz.prog 48 5 [(0, [v0_0]), (1, [v1_0]), (2, [v2_0]), (3, [v3_0]), (4, [v4_0])] = some ([v0_0, v1_0, v2_0, v3_0, v4_0], 5) := kR
theorem fa52_3 (k o : Nat) : fieldAddrV Tryz.prog 52 (.ptr k o) 3 = some (.ptr k (o + 3)) := kR
theorem ty50 : tyR Tryz.prog 50 = some (1, false) := kR
theorem fa52_6 (k o : Nat) : fieldAddrV Tryz.prog 52 (.ptr k o) 6 = some (.ptr k (o + 6)) := kR
theorem fa52_7 (k o : Nat) : fieldAddrV Tryz.prog 52 (.ptr k o) 7 = some (.ptr k (o + 7)) := kR
theorem ia34 (k o n m : Nat) (kd : IntKind) (i : Int) : indexAddrV Tryz.prog 34 (.slice k o n m) (.int kd i) = if 0 ≤ i ∧ i < n then some (.ptr k (o + i.toNat * 5)) else none := indexAddr_slice (e := 109) kR kR k o n m kd i
theorem fa109_1 (k o : Nat) : fieldAddrV Tryz.prog 109 (.ptr k o) 1 = some (.ptr k (o + 1)) := kR
theorem fa109_2 (k o : Nat) : fieldAddrV Tryz.prog 109 (.ptr k o) 2 = some (.ptr k (o + 2)) := kR
theorem ia110 (k o n m : Nat) (kd : IntKind) (i : Int) : indexAddrV Tryz.prog 110 (.slice k o n m) (.int kd i) = if 0 ≤ i ∧ i < n then some (.ptr k (o + i.toNat * 10)) else none := indexAddr_slice (e := 112) kR kR k o n m kd i
theorem ty112 : tyR Tryz.prog 112 = some (10, true) := kR
theorem ze112 : zeroL Tryz.prog 112 = some [.str [], .str [], .str [], .str [], .str [], .int .u16 0, .int .u32 0, .int .u8 0, .int .u16 0, .int .u8 0] := kR
theorem sz112 : szT Tryz.prog 112 = some 10 := kR
theorem bu116_0_1_12_11 (v0_0 v1_0 v1_1 v1_2 v1_3 v1_4 v1_5 v1_6 v1_7 v12_0 v11_0 : V) : buildV Tryz.prog 116 [(0, [v0_0]), (1, [v1_0, v1_1, v1_2, v1_3, v1_4, v1_5, v1_6, v1_7]), (12, [v12_0]), (11, [v11_0])] = some (.agg [v0_0, v1_0, v1_1, v1_2, v1_3, v1_4, v1_5, v1_6, v1_7, .nilfunc, .bool false, .bool false, .int .i64 0, .nilslice, .nilslice, .int .i64 0, .bool false, .int .u16 0, v11_0, v12_0]) := kR
theorem fa116_6 (k o : Nat) : fieldAddrV Tryz.prog 116 (.ptr k o) 6 = some (.ptr k (o + 13)) := kR
theorem sz110 : szT Tryz.prog 110 = some 1 := kR
theorem ty71 : tyR Tryz.prog 71 = some (17, true) := kR
theorem bu71 : buildV Tryz.prog 71 [] = some (.agg [.int .i64 0, .bool false, .int .u64 0, .int .u64 0, .int .u16 0, .int .u16 0, .str [], .nilslice, .int .u16 0, .str [], .str [], .int .u16 0, .int .u16 0, .int .u32 0, .int .u16 0, .int .u16 0, .int .u16 0]) := kR
theorem fa116_2 (k o : Nat) : fieldAddrV Tryz.prog 116 (.ptr k o) 2 = some (.ptr k (o + 9)) := kR
theorem ty114 : tyR Tryz.prog 114 = some (1, false) := kR
-- eq on type 114
theorem fa116_4 (k o : Nat) : fieldAddrV Tryz.prog 116 (.ptr k o) 4 = some (.ptr k (o + 11)) := kR
theorem ty77 : tyR Tryz.prog 77 = some (2, true) := kR
theorem bu77_0_1 (v0_0 v1_0 : V) : buildV Tryz.prog 77 [(0, [v0_0]), (1, [v1_0])] = some (.agg [v0_0, v1_0]) := kR
theorem bs122_7 (v0_0 v1_0 v2_0 v3_0 v4_0 v5_0 v6_0 : V) : buildSliceL Tryz.prog 122 7 [(0, [v0_0]), (1, [v1_0]), (2, [v2_0]), (3, [v3_0]), (4, [v4_0]), (5, [v5_0]), (6, [v6_0])] = some ([v0_0, v1_0, v2_0, v3_0, v4_0, v5_0, v6_0], 121) := kR
theorem ia122 (k o n m : Nat) (kd : IntKind) (i : Int) : indexAddrV Tryz.prog 122 (.slice k o n m) (.int kd i) = if 0 ≤ i ∧ i < n then some (.ptr k (o + i.toNat * 1)) else none := indexAddr_slice (e := 121) kR kR k o n m kd i
theorem ty121 : tyR Tryz.prog 121 = some (1, false) := kR
theorem ze124 : zeroL Tryz.prog 124 = some [.int .i64 0, .str [], .int .i64 0, .int .i64 0, .int .i64 0] := kR
theorem sz124 : szT Tryz.prog 124 = some 5 := kR
theorem fa124_2 (k o : Nat) : fieldAddrV Tryz.prog 124 (.ptr k o) 2 = some (.ptr k (o + 4)) := kR
theorem fa124_1 (k o : Nat) : fieldAddrV Tryz.prog 124 (.ptr k o) 1 = some (.ptr k (o + 3)) := kR
theorem fa124_0 (k o : Nat) : fieldAddrV Tryz.prog 124 (.ptr k o) 0 = some (.ptr k (o + 0)) := kR
theorem fa81_2 (k o : Nat) : fieldAddrV Tryz.prog 81 (.ptr k o) 2 = some (.ptr k (o + 2)) := kR
theorem bs75_1 (v0_0 v0_1 v0_2 : V) : buildSliceL Tryz.prog 75 1 [(0, [v0_0, v0_1, v0_2])] = some ([v0_0, v0_1, v0_2], 81) := kR
theorem ap75 : apI Tryz.prog 75 = some (81, 3, 32) := kR
theorem bu77 : buildV Tryz.prog 77 [] = some (.agg [.int .i64 0, .int .i64 0]) := kR
theorem bu126_1_2_3_4_5_6_7_8_9_10 (v1_0 v2_0 v3_0 v4_0 v5_0 v6_0 v7_0 v8_0 v9_0 v10_0 : V) : buildV Tryz.prog 126 [(1, [v1_0]), (2, [v2_0]), (3, [v3_0]), (4, [v4_0]), (5, [v5_0]), (6, [v6_0]), (7, [v7_0]), (8, [v8_0]), (9, [v9_0]), (10, [v10_0])] = some (.agg [.str [], v1_0, v2_0, v3_0, v4_0, v5_0, v6_0, v7_0, v8_0, v9_0, v10_0]) := kR
theorem ze126 : zeroL Tryz.prog 126 = some [.str [], .str [], .str [], .str [], .str [], .str [], .str [], .str [], .str [], .str [], .str []] := kR
theorem sz126 : szT Tryz.prog 126 = some 11 := kR
theorem ia126 (k o : Nat) (kd : IntKind) (i : Int) : indexAddrV Tryz.prog 126 (.ptr k o) (.int kd i) = if 0 ≤ i ∧ i < ((11 : Nat) : Int) then some (.ptr k (o + i.toNat * 1)) else none := indexAddr_array (e := 9) kR kR k o kd i
theorem sz9 : szT Tryz.prog 9 = some 1 := kR
theorem ia33 (k o n m : Nat) (kd : IntKind) (i : Int) : indexAddrV Tryz.prog 33 (.slice k o n m) (.int kd i) = if 0 ≤ i ∧ i < n then some (.ptr k (o + i.toNat * 4)) else none := indexAddr_slice (e := 132) kR kR k o n m kd i
theorem ty132 : tyR Tryz.prog 132 = some (4, true) := kR
theorem ze132 : zeroL Tryz.prog 132 = some [.int .i64 0, .int .i64 0, .int .i64 0, .int .i64 0] := kR
theorem sz132 : szT Tryz.prog 132 = some 4 := kR
theorem fa132_1 (k o : Nat) : fieldAddrV Tryz.prog 132 (.ptr k o) 1 = some (.ptr k (o + 1)) := kR
theorem fa132_3 (k o : Nat) : fieldAddrV Tryz.prog 132 (.ptr k o) 3 = some (.ptr k (o + 3)) := kR
theorem bs38_5_1_2_3_4 (v1_0 v2_0 v3_0 v4_0 : V) : buildSliceL Tryz.prog 38 5 [(1, [v1_0]), (2, [v2_0]), (3, [v3_0]), (4, [v4_0])] = some ([.str [], v1_0, v2_0, v3_0, v4_0], 9) := kR
theorem fa132_0 (k o : Nat) : fieldAddrV Tryz.prog 132 (.ptr k o) 0 = some (.ptr k (o + 0)) := kR
theorem fa132_2 (k o : Nat) : fieldAddrV Tryz.prog 132 (.ptr k o) 2 = some (.ptr k (o + 2)) := kR
theorem bs38_4 (v0_0 v1_0 v2_0 v3_0 : V) : buildSliceL Tryz.prog 38 4 [(0, [v0_0]), (1, [v1_0]), (2, [v2_0]), (3, [v3_0])] = some ([v0_0, v1_0, v2_0, v3_0], 9) := kR
theorem ty109 : tyR Tryz.prog 109 = some (5, true) := kR
theorem ze109 : zeroL Tryz.prog 109 = some [.int .i64 0, .str [], .str [], .int .i64 0, .bool false] := kR
theorem sz109 : szT Tryz.prog 109 = some 5 := kR
theorem bs38_9 (v0_0 v1_0 v2_0 v3_0 v4_0 v5_0 v6_0 v7_0 v8_0 : V) : buildSliceL Tryz.prog 38 9 [(0, [v0_0]), (1, [v1_0]), (2, [v2_0]), (3, [v3_0]), (4, [v4_0]), (5, [v5_0]), (6, [v6_0]), (7, [v7_0]), (8, [v8_0])] = some ([v0_0, v1_0, v2_0, v3_0, v4_0, v5_0, v6_0, v7_0, v8_0], 9) := kR
theorem fa109_3 (k o : Nat) : fieldAddrV Tryz.prog 109 (.ptr k o) 3 = some (.ptr k (o + 3)) := kR
theorem fa109_0 (k o : Nat) : fieldAddrV Tryz.prog 109 (.ptr k o) 0 = some (.ptr k (o + 0)) := kR
theorem fa109_4 (k o : Nat) : fieldAddrV Tryz.prog 109 (.ptr k o) 4 = some (.ptr k (o + 4)) := kR
theorem bs38_5 (v0_0 v1_0 v2_0 v3_0 v4_0 : V) : buildSliceL Tryz.prog 38 5 [(0, [v0_0]), (1, [v1_0]), (2, [v2_0]), (3, [v3_0]), (4, [v4_0])] = some ([v0_0, v1_0, v2_0, v3_0, v4_0], 9) := kR
theorem bu136_0 (v0_0 : V) : buildV Tryz.prog 136 [(0, [v0_0])] = some (.agg [v0_0, .int .i64 0]) := kR
theorem bu52_0 (v0_0 : V) : buildV Tryz.prog 52 [(0, [v0_0])] = some (.agg [v0_0, .str [], .int .u32 0, .int .u16 0, .int .u8 0, .int .u32 0, .int .u16 0, .nilslice]) := kR
theorem fa136_1 (k o : Nat) : fieldAddrV Tryz.prog 136 (.ptr k o) 1 = some (.ptr k (o + 1)) := kR
theorem bu52 : buildV Tryz.prog 52 [] = some (.agg [.int .u8 0, .str [], .int .u32 0, .int .u16 0, .int .u8 0, .int .u32 0, .int .u16 0, .nilslice]) := kR
theorem by48 : byteS Tryz.prog 48 = true := kR
theorem el48 : elemS Tryz.prog 48 = 5 := kR
theorem sz42 : szT Tryz.prog 42 = some 1 := kR
theorem sz5 : szT Tryz.prog 5 = some 1 := kR
theorem sz25 : szT Tryz.prog 25 = some 1 := kR
theorem sz48 : szT Tryz.prog 48 = some 1 := kR
theorem sz50 : szT Tryz.prog 50 = some 1 := kR
theorem fa136_0 (k o : Nat) : fieldAddrV Tryz.prog 136 (.ptr k o) 0 = some (.ptr k (o + 0)) := kR
theorem bu63_2 (v2_0 : V) : buildV Tryz.prog 63 [(2, [v2_0])] = some (.agg [.int .u64 0, .int .u64 0, v2_0, .int .u16 0, .str [], .nilslice]) := kR
theorem bs45_1 (v0_0 : V) : buildSliceL Tryz.prog 45 1 [(0, [v0_0])] = some ([v0_0], 48) := kR
theorem bu65_0_1_2 (v0_0 v1_0 v2_0 : V) : buildV Tryz.prog 65 [(0, [v0_0]), (1, [v1_0]), (2, [v2_0])] = some (.agg [v0_0, v1_0, v2_0]) := kR
theorem bu112_3_4_5_6_7 (v3_0 v4_0 v5_0 v6_0 v7_0 : V) : buildV Tryz.prog 112 [(3, [v3_0]), (4, [v4_0]), (5, [v5_0]), (6, [v6_0]), (7, [v7_0])] = some (.agg [.str [], .str [], .str [], v3_0, v4_0, v5_0, v6_0, v7_0, .int .u16 0, .int .u8 0]) := kR
theorem ap45 : apI Tryz.prog 45 = some (48, 1, 24) := kR
theorem bu67_1 (v1_0 : V) : buildV Tryz.prog 67 [(1, [v1_0])] = some (.agg [.int .u16 0, v1_0]) := kR
theorem bu148_0_3 (v0_0 v3_0 : V) : buildV Tryz.prog 148 [(0, [v0_0]), (3, [v3_0])] = some (.agg [v0_0, .int .i64 0, .int .u64 0, v3_0, .bool false, .int .i64 0, .int .i64 0, .int .i64 0, .int .i64 0, .int .i64 0, .int .i64 0, .int .i64 0]) := kR
theorem ze148 : zeroL Tryz.prog 148 = some [.int .i64 0, .int .i64 0, .int .u64 0, .str [], .bool false, .int .i64 0, .int .i64 0, .int .i64 0, .int .i64 0, .int .i64 0, .int .i64 0, .int .i64 0] := kR
theorem sz148 : szT Tryz.prog 148 = some 12 := kR
theorem bu148 : buildV Tryz.prog 148 [] = some (.agg [.int .i64 0, .int .i64 0, .int .u64 0, .str [], .bool false, .int .i64 0, .int .i64 0, .int .i64 0, .int .i64 0, .int .i64 0, .int .i64 0, .int .i64 0]) := kR
theorem ty148 : tyR Tryz.prog 148 = some (12, true) := kR
theorem bs144_1 (v0_0 v0_1 v0_2 v0_3 v0_4 v0_5 v0_6 v0_7 v0_8 v0_9 v0_10 v0_11 : V) : buildSliceL Tryz.prog 144 1 [(0, [v0_0, v0_1, v0_2, v0_3, v0_4, v0_5, v0_6, v0_7, v0_8, v0_9, v0_10, v0_11])] = some ([v0_0, v0_1, v0_2, v0_3, v0_4, v0_5, v0_6, v0_7, v0_8, v0_9, v0_10, v0_11], 148) := kR
theorem ap144 : apI Tryz.prog 144 = some (148, 12, 104) := kR
theorem bu104 (v0_0 v1_0 : V) : buildV Tryz.prog 104 [(0, [v0_0]), (1, [v1_0])] = some (.agg [v0_0, v1_0]) := kR
theorem bs102_3 (v0_0 v0_1 v1_0 v1_1 v2_0 v2_1 : V) : buildSliceL Tryz.prog 102 3 [(0, [v0_0, v0_1]), (1, [v1_0, v1_1]), (2, [v2_0, v2_1])] = some ([v0_0, v0_1, v1_0, v1_1, v2_0, v2_1], 104) := kR
-- eq on type 48
theorem bs48_0 : buildSliceL Tryz.prog 48 0 [] = some ([], 5) := kR
theorem fa112_0 (k o : Nat) : fieldAddrV Tryz.prog 112 (.ptr k o) 0 = some (.ptr k (o + 0)) := kR
theorem fa112_1 (k o : Nat) : fieldAddrV Tryz.prog 112 (.ptr k o) 1 = some (.ptr k (o + 1)) := kR
theorem fa112_2 (k o : Nat) : fieldAddrV Tryz.prog 112 (.ptr k o) 2 = some (.ptr k (o + 2)) := kR
theorem fa112_3 (k o : Nat) : fieldAddrV Tryz.prog 112 (.ptr k o) 3 = some (.ptr k (o + 3)) := kR
theorem fa112_4 (k o : Nat) : fieldAddrV Tryz.prog 112 (.ptr k o) 4 = some (.ptr k (o + 4)) := kR
theorem fa112_7 (k o : Nat) : fieldAddrV Tryz.prog 112 (.ptr k o) 7 = some (.ptr k (o + 7)) := kR
-- eq on type 110
theorem bs110_0 : buildSliceL Tryz.prog 110 0 [] = some ([], 112) := kR
theorem ap110 : apI Tryz.prog 110 = some (112, 10, 96) := kR
theorem sz114 : szT Tryz.prog 114 = some 1 := kR
theorem fa116_3 (k o : Nat) : fieldAddrV Tryz.prog 116 (.ptr k o) 3 = some (.ptr k (o + 10)) := kR
theorem sz4 : szT Tryz.prog 4 = some 1 := kR
theorem fa116_0 (k o : Nat) : fieldAddrV Tryz.prog 116 (.ptr k o) 0 = some (.ptr k (o + 0)) := kR
theorem ze67 : zeroL Tryz.prog 67 = some [.int .u16 0, .int .u16 0] := kR
theorem sz67 : szT Tryz.prog 67 = some 2 := kR
theorem ty67 : tyR Tryz.prog 67 = some (2, true) := kR
theorem bu71_0_1_4 (v0_0 v1_0 v4_0 v4_1 : V) : buildV Tryz.prog 71 [(0, [v0_0]), (1, [v1_0]), (4, [v4_0, v4_1])] = some (.agg [v0_0, v1_0, .int .u64 0, .int .u64 0, .int .u16 0, .int .u16 0, .str [], .nilslice, .int .u16 0, .str [], .str [], v4_0, v4_1, .int .u32 0, .int .u16 0, .int .u16 0, .int .u16 0]) := kR
theorem bu71_0_1 (v0_0 v1_0 : V) : buildV Tryz.prog 71 [(0, [v0_0]), (1, [v1_0])] = some (.agg [v0_0, v1_0, .int .u64 0, .int .u64 0, .int .u16 0, .int .u16 0, .str [], .nilslice, .int .u16 0, .str [], .str [], .int .u16 0, .int .u16 0, .int .u32 0, .int .u16 0, .int .u16 0, .int .u16 0]) := kR
theorem bu71_0 (v0_0 : V) : buildV Tryz.prog 71 [(0, [v0_0])] = some (.agg [v0_0, .bool false, .int .u64 0, .int .u64 0, .int .u16 0, .int .u16 0, .str [], .nilslice, .int .u16 0, .str [], .str [], .int .u16 0, .int .u16 0, .int .u32 0, .int .u16 0, .int .u16 0, .int .u16 0]) := kR
theorem fa116_5 (k o : Nat) : fieldAddrV Tryz.prog 116 (.ptr k o) 5 = some (.ptr k (o + 12)) := kR
theorem fa116_7 (k o : Nat) : fieldAddrV Tryz.prog 116 (.ptr k o) 7 = some (.ptr k (o + 14)) := kR
theorem ze69 : zeroL Tryz.prog 69 = some [.int .u32 0, .int .u16 0, .int .u16 0, .int .u16 0] := kR
theorem sz69 : szT Tryz.prog 69 = some 4 := kR
theorem fa69_2 (k o : Nat) : fieldAddrV Tryz.prog 69 (.ptr k o) 2 = some (.ptr k (o + 2)) := kR
theorem fa69_1 (k o : Nat) : fieldAddrV Tryz.prog 69 (.ptr k o) 1 = some (.ptr k (o + 1)) := kR
theorem fa116_8 (k o : Nat) : fieldAddrV Tryz.prog 116 (.ptr k o) 8 = some (.ptr k (o + 15)) := kR
theorem ty69 : tyR Tryz.prog 69 = some (4, true) := kR
theorem bu71_0_1_5 (v0_0 v1_0 v5_0 v5_1 v5_2 v5_3 : V) : buildV Tryz.prog 71 [(0, [v0_0]), (1, [v1_0]), (5, [v5_0, v5_1, v5_2, v5_3])] = some (.agg [v0_0, v1_0, .int .u64 0, .int .u64 0, .int .u16 0, .int .u16 0, .str [], .nilslice, .int .u16 0, .str [], .str [], .int .u16 0, .int .u16 0, v5_0, v5_1, v5_2, v5_3]) := kR
theorem fa116_1 (k o : Nat) : fieldAddrV Tryz.prog 116 (.ptr k o) 1 = some (.ptr k (o + 1)) := kR
theorem fa67_1 (k o : Nat) : fieldAddrV Tryz.prog 67 (.ptr k o) 1 = some (.ptr k (o + 1)) := kR
theorem fa116_11 (k o : Nat) : fieldAddrV Tryz.prog 116 (.ptr k o) 11 = some (.ptr k (o + 18)) := kR
theorem ty110 : tyR Tryz.prog 110 = some (1, false) := kR
theorem ze65 : zeroL Tryz.prog 65 = some [.int .u16 0, .str [], .str []] := kR
theorem sz65 : szT Tryz.prog 65 = some 3 := kR
theorem ty65 : tyR Tryz.prog 65 = some (3, true) := kR
theorem bu71_0_1_3 (v0_0 v1_0 v3_0 v3_1 v3_2 : V) : buildV Tryz.prog 71 [(0, [v0_0]), (1, [v1_0]), (3, [v3_0, v3_1, v3_2])] = some (.agg [v0_0, v1_0, .int .u64 0, .int .u64 0, .int .u16 0, .int .u16 0, .str [], .nilslice, v3_0, v3_1, v3_2, .int .u16 0, .int .u16 0, .int .u32 0, .int .u16 0, .int .u16 0, .int .u16 0]) := kR
theorem ps58 : ptrSz Tryz.prog 58 = true := kR
theorem fa116_12 (k o : Nat) : fieldAddrV Tryz.prog 116 (.ptr k o) 12 = some (.ptr k (o + 19)) := kR
theorem ty124 : tyR Tryz.prog 124 = some (5, true) := kR
theorem bu124 : buildV Tryz.prog 124 [] = some (.agg [.int .i64 0, .str [], .int .i64 0, .int .i64 0, .int .i64 0]) := kR
theorem bu124_2 (v2_0 : V) : buildV Tryz.prog 124 [(2, [v2_0])] = some (.agg [.int .i64 0, .str [], .int .i64 0, .int .i64 0, v2_0]) := kR
theorem bu81_0_1 (v0_0 v1_0 : V) : buildV Tryz.prog 81 [(0, [v0_0]), (1, [v1_0])] = some (.agg [v0_0, v1_0, .int .i64 0]) := kR
theorem bu124_0_1 (v0_0 v0_1 v0_2 v1_0 : V) : buildV Tryz.prog 124 [(0, [v0_0, v0_1, v0_2]), (1, [v1_0])] = some (.agg [v0_0, v0_1, v0_2, v1_0, .int .i64 0]) := kR
theorem ze174 : zeroL Tryz.prog 174 = some [.nilptr, .nilslice] := kR
theorem bs122_3 (v0_0 v1_0 v2_0 : V) : buildSliceL Tryz.prog 122 3 [(0, [v0_0]), (1, [v1_0]), (2, [v2_0])] = some ([v0_0, v1_0, v2_0], 121) := kR
theorem bu81_0 (v0_0 : V) : buildV Tryz.prog 81 [(0, [v0_0])] = some (.agg [v0_0, .str [], .int .i64 0]) := kR
theorem fa63_5 (k o : Nat) : fieldAddrV Tryz.prog 63 (.ptr k o) 5 = some (.ptr k (o + 5)) := kR
theorem ty63 : tyR Tryz.prog 63 = some (6, true) := kR
theorem fa63_0 (k o : Nat) : fieldAddrV Tryz.prog 63 (.ptr k o) 0 = some (.ptr k (o + 0)) := kR
theorem ty61 : tyR Tryz.prog 61 = some (1, false) := kR
theorem fa63_1 (k o : Nat) : fieldAddrV Tryz.prog 63 (.ptr k o) 1 = some (.ptr k (o + 1)) := kR
theorem fa63_2 (k o : Nat) : fieldAddrV Tryz.prog 63 (.ptr k o) 2 = some (.ptr k (o + 2)) := kR
theorem fa63_3 (k o : Nat) : fieldAddrV Tryz.prog 63 (.ptr k o) 3 = some (.ptr k (o + 3)) := kR
theorem fa63_4 (k o : Nat) : fieldAddrV Tryz.prog 63 (.ptr k o) 4 = some (.ptr k (o + 4)) := kR
theorem fa65_1 (k o : Nat) : fieldAddrV Tryz.prog 65 (.ptr k o) 1 = some (.ptr k (o + 1)) := kR
theorem fa65_2 (k o : Nat) : fieldAddrV Tryz.prog 65 (.ptr k o) 2 = some (.ptr k (o + 2)) := kR
theorem fa112_5 (k o : Nat) : fieldAddrV Tryz.prog 112 (.ptr k o) 5 = some (.ptr k (o + 5)) := kR
theorem fa112_6 (k o : Nat) : fieldAddrV Tryz.prog 112 (.ptr k o) 6 = some (.ptr k (o + 6)) := kR
theorem fa112_8 (k o : Nat) : fieldAddrV Tryz.prog 112 (.ptr k o) 8 = some (.ptr k (o + 8)) := kR
theorem fa112_9 (k o : Nat) : fieldAddrV Tryz.prog 112 (.ptr k o) 9 = some (.ptr k (o + 9)) := kR
theorem ia144 (k o n m : Nat) (kd : IntKind) (i : Int) : indexAddrV Tryz.prog 144 (.slice k o n m) (.int kd i) = if 0 ≤ i ∧ i < n then some (.ptr k (o + i.toNat * 12)) else none := indexAddr_slice (e := 148) kR kR k o n m kd i
theorem fa148_0 (k o : Nat) : fieldAddrV Tryz.prog 148 (.ptr k o) 0 = some (.ptr k (o + 0)) := kR
theorem fa148_3 (k o : Nat) : fieldAddrV Tryz.prog 148 (.ptr k o) 3 = some (.ptr k (o + 3)) := kR
theorem ze63 : zeroL Tryz.prog 63 = some [.int .u64 0, .int .u64 0, .int .u16 0, .int .u16 0, .str [], .nilslice] := kR
theorem sz63 : szT Tryz.prog 63 = some 6 := kR
theorem fa116_10 (k o : Nat) : fieldAddrV Tryz.prog 116 (.ptr k o) 10 = some (.ptr k (o + 17)) := kR
theorem bu71_0_1_2 (v0_0 v1_0 v2_0 v2_1 v2_2 v2_3 v2_4 v2_5 : V) : buildV Tryz.prog 71 [(0, [v0_0]), (1, [v1_0]), (2, [v2_0, v2_1, v2_2, v2_3, v2_4, v2_5])] = some (.agg [v0_0, v1_0, v2_0, v2_1, v2_2, v2_3, v2_4, v2_5, .int .u16 0, .str [], .str [], .int .u16 0, .int .u16 0, .int .u32 0, .int .u16 0, .int .u16 0, .int .u16 0]) := kR
theorem bu67 : buildV Tryz.prog 67 [] = some (.agg [.int .u16 0, .int .u16 0]) := kR
theorem bu208_0 (v0_0 : V) : buildV Tryz.prog 208 [(0, [v0_0])] = some (.agg [v0_0, .int .i64 0]) := kR
theorem fa208_1 (k o : Nat) : fieldAddrV Tryz.prog 208 (.ptr k o) 1 = some (.ptr k (o + 1)) := kR
theorem fa208_0 (k o : Nat) : fieldAddrV Tryz.prog 208 (.ptr k o) 0 = some (.ptr k (o + 0)) := kR
theorem ty200 : tyR Tryz.prog 200 = some (2, true) := kR
theorem ze200 : zeroL Tryz.prog 200 = some [.int .u8 0, .bool false] := kR
theorem sz200 : szT Tryz.prog 200 = some 2 := kR
theorem fa200_0 (k o : Nat) : fieldAddrV Tryz.prog 200 (.ptr k o) 0 = some (.ptr k (o + 0)) := kR
theorem bu65_0 (v0_0 : V) : buildV Tryz.prog 65 [(0, [v0_0])] = some (.agg [v0_0, .str [], .str []]) := kR
theorem bu65 : buildV Tryz.prog 65 [] = some (.agg [.int .u16 0, .str [], .str []]) := kR
theorem fa174_1 (k o : Nat) : fieldAddrV Tryz.prog 174 (.ptr k o) 1 = some (.ptr k (o + 1)) := kR
-- eq on type 148
theorem fa148_1 (k o : Nat) : fieldAddrV Tryz.prog 148 (.ptr k o) 1 = some (.ptr k (o + 1)) := kR
theorem bu148_0_1 (v0_0 v1_0 : V) : buildV Tryz.prog 148 [(0, [v0_0]), (1, [v1_0])] = some (.agg [v0_0, v1_0, .int .u64 0, .str [], .bool false, .int .i64 0, .int .i64 0, .int .i64 0, .int .i64 0, .int .i64 0, .int .i64 0, .int .i64 0]) := kR
theorem fa148_2 (k o : Nat) : fieldAddrV Tryz.prog 148 (.ptr k o) 2 = some (.ptr k (o + 2)) := kR
theorem bu148_0_2 (v0_0 v2_0 : V) : buildV Tryz.prog 148 [(0, [v0_0]), (2, [v2_0])] = some (.agg [v0_0, .int .i64 0, v2_0, .str [], .bool false, .int .i64 0, .int .i64 0, .int .i64 0, .int .i64 0, .int .i64 0, .int .i64 0, .int .i64 0]) := kR
theorem fa148_4 (k o : Nat) : fieldAddrV Tryz.prog 148 (.ptr k o) 4 = some (.ptr k (o + 4)) := kR
theorem ty146 : tyR Tryz.prog 146 = some (8, true) := kR
theorem bu148_0_4 (v0_0 v4_0 v4_1 v4_2 v4_3 v4_4 v4_5 v4_6 v4_7 : V) : buildV Tryz.prog 148 [(0, [v0_0]), (4, [v4_0, v4_1, v4_2, v4_3, v4_4, v4_5, v4_6, v4_7])] = some (.agg [v0_0, .int .i64 0, .int .u64 0, .str [], v4_0, v4_1, v4_2, v4_3, v4_4, v4_5, v4_6, v4_7]) := kR
theorem bu200_0 (v0_0 : V) : buildV Tryz.prog 200 [(0, [v0_0])] = some (.agg [v0_0, .bool false]) := kR
theorem ty202 : tyR Tryz.prog 202 = some (256, true) := kR
theorem ze202 : zeroL Tryz.prog 202 = some [.str [], .str [], .str [], .str [], .str [], .str [], .str [], .str [], .str [], .str [], .str [], .str [], .str [], .str [], .str [], .str [], .str [], .str [], .str [], .str [], .str [], .str [], .str [], .str [], .str [], .str [], .str [], .str [], .str [], .str [], .str [], .str [], .str [], .str [], .str [], .str [], .str [], .str [], .str [], .str [], .str [], .str [], .str [], .str [], .str [], .str [], .str [], .str [], .str [], .str [], .str [], .str [], .str [], .str [], .str [], .str [], .str [], .str [], .str [], .str [], .str [], .str [], .str [], .str [], .str [], .str [], .str [], .str [], .str [], .str [], .str [], .str [], .str [], .str [], .str [], .str [], .str [], .str [], .str [], .str [], .str [], .str [], .str [], .str [], .str [], .str [], .str [], .str [], .str [], .str [], .str [], .str [], .str [], .str [], .str [], .str [], .str [], .str [], .str [], .str [], .str [], .str [], .str [], .str [], .str [], .str [], .str [], .str [], .str [], .str [], .str [], .str [], .str [], .str [], .str [], .str [], .str [], .str [], .str [], .str [], .str [], .str [], .str [], .str [], .str [], .str [], .str [], .str [], .str [], .str [], .str [], .str [], .str [], .str [], .str [], .str [], .str [], .str [], .str [], .str [], .str [], .str [], .str [], .str [], .str [], .str [], .str [], .str [], .str [], .str [], .str [], .str [], .str [], .str [], .str [], .str [], .str [], .str [], .str [], .str [], .str [], .str [], .str [], .str [], .str [], .str [], .str [], .str [], .str [], .str [], .str [], .str [], .str [], .str [], .str [], .str [], .str [], .str [], .str [], .str [], .str [], .str [], .str [], .str [], .str [], .str [], .str [], .str [], .str [], .str [], .str [], .str [], .str [], .str [], .str [], .str [], .str [], .str [], .str [], .str [], .str [], .str [], .str [], .str [], .str [], .str [], .str [], .str [], .str [], .str [], .str [], .str [], .str [], .str [], .str [], .str [], .str [], .str [], .str [], .str [], .str [], .str [], .str [], .str [], .str [], .str [], .str [], .str [], .str [], .str [], .str [], .str [], .str [], .str [], .str [], .str [], .str [], .str [], .str [], .str [], .str [], .str [], .str [], .str [], .str [], .str [], .str [], .str [], .str [], .str [], .str [], .str [], .str [], .str [], .str [], .str []] := kR
theorem bu202_0_1_2_3_4_5_6_7_8_9_10_11_12_13_15_16_245_246_247_248_249_250_251_252_253_254_255 (v0_0 v1_0 v2_0 v3_0 v4_0 v5_0 v6_0 v7_0 v8_0 v9_0 v10_0 v11_0 v12_0 v13_0 v15_0 v16_0 v245_0 v246_0 v247_0 v248_0 v249_0 v250_0 v251_0 v252_0 v253_0 v254_0 v255_0 : V) : buildV Tryz.prog 202 [(0, [v0_0]), (1, [v1_0]), (2, [v2_0]), (3, [v3_0]), (4, [v4_0]), (5, [v5_0]), (6, [v6_0]), (7, [v7_0]), (8, [v8_0]), (9, [v9_0]), (10, [v10_0]), (11, [v11_0]), (12, [v12_0]), (13, [v13_0]), (15, [v15_0]), (16, [v16_0]), (245, [v245_0]), (246, [v246_0]), (247, [v247_0]), (248, [v248_0]), (249, [v249_0]), (250, [v250_0]), (251, [v251_0]), (252, [v252_0]), (253, [v253_0]), (254, [v254_0]), (255, [v255_0])] = some (.agg [v0_0, v1_0, v2_0, v3_0, v4_0, v5_0, v6_0, v7_0, v8_0, v9_0, v10_0, v11_0, v12_0, v13_0, .str [], v15_0, v16_0, .str [], .str [], .str [], .str [], .str [], .str [], .str [], .str [], .str [], .str [], .str [], .str [], .str [], .str [], .str [], .str [], .str [], .str [], .str [], .str [], .str [], .str [], .str [], .str [], .str [], .str [], .str [], .str [], .str [], .str [], .str [], .str [], .str [], .str [], .str [], .str [], .str [], .str [], .str [], .str [], .str [], .str [], .str [], .str [], .str [], .str [], .str [], .str [], .str [], .str [], .str [], .str [], .str [], .str [], .str [], .str [], .str [], .str [], .str [], .str [], .str [], .str [], .str [], .str [], .str [], .str [], .str [], .str [], .str [], .str [], .str [], .str [], .str [], .str [], .str [], .str [], .str [], .str [], .str [], .str [], .str [], .str [], .str [], .str [], .str [], .str [], .str [], .str [], .str [], .str [], .str [], .str [], .str [], .str [], .str [], .str [], .str [], .str [], .str [], .str [], .str [], .str [], .str [], .str [], .str [], .str [], .str [], .str [], .str [], .str [], .str [], .str [], .str [], .str [], .str [], .str [], .str [], .str [], .str [], .str [], .str [], .str [], .str [], .str [], .str [], .str [], .str [], .str [], .str [], .str [], .str [], .str [], .str [], .str [], .str [], .str [], .str [], .str [], .str [], .str [], .str [], .str [], .str [], .str [], .str [], .str [], .str [], .str [], .str [], .str [], .str [], .str [], .str [], .str [], .str [], .str [], .str [], .str [], .str [], .str [], .str [], .str [], .str [], .str [], .str [], .str [], .str [], .str [], .str [], .str [], .str [], .str [], .str [], .str [], .str [], .str [], .str [], .str [], .str [], .str [], .str [], .str [], .str [], .str [], .str [], .str [], .str [], .str [], .str [], .str [], .str [], .str [], .str [], .str [], .str [], .str [], .str [], .str [], .str [], .str [], .str [], .str [], .str [], .str [], .str [], .str [], .str [], .str [], .str [], .str [], .str [], .str [], .str [], .str [], .str [], .str [], .str [], .str [], .str [], .str [], .str [], .str [], .str [], .str [], .str [], .str [], .str [], .str [], v245_0, v246_0, v247_0, v248_0, v249_0, v250_0, v251_0, v252_0, v253_0, v254_0, v255_0]) := kR
theorem sz202 : szT Tryz.prog 202 = some 256 := kR
theorem bu63_0_1_2_3 (v0_0 v1_0 v2_0 v3_0 : V) : buildV Tryz.prog 63 [(0, [v0_0]), (1, [v1_0]), (2, [v2_0]), (3, [v3_0])] = some (.agg [v0_0, v1_0, v2_0, v3_0, .str [], .nilslice]) := kR
theorem bu63 : buildV Tryz.prog 63 [] = some (.agg [.int .u64 0, .int .u64 0, .int .u16 0, .int .u16 0, .str [], .nilslice]) := kR
theorem bu67_0_1 (v0_0 v1_0 : V) : buildV Tryz.prog 67 [(0, [v0_0]), (1, [v1_0])] = some (.agg [v0_0, v1_0]) := kR
theorem bs110_1 (v0_0 v0_1 v0_2 v0_3 v0_4 v0_5 v0_6 v0_7 v0_8 v0_9 : V) : buildSliceL Tryz.prog 110 1 [(0, [v0_0, v0_1, v0_2, v0_3, v0_4, v0_5, v0_6, v0_7, v0_8, v0_9])] = some ([v0_0, v0_1, v0_2, v0_3, v0_4, v0_5, v0_6, v0_7, v0_8, v0_9], 112) := kR
theorem fa200_1 (k o : Nat) : fieldAddrV Tryz.prog 200 (.ptr k o) 1 = some (.ptr k (o + 1)) := kR
theorem fa174_0 (k o : Nat) : fieldAddrV Tryz.prog 174 (.ptr k o) 0 = some (.ptr k (o + 0)) := kR
theorem ty172 : tyR Tryz.prog 172 = some (1, false) := kR
theorem ps172 : ptrSz Tryz.prog 172 = true := kR
theorem sz172 : szT Tryz.prog 172 = some 1 := kR
-- eq on type 146
theorem bu273_0 (v0_0 : V) : buildV Tryz.prog 273 [(0, [v0_0])] = some (.agg [v0_0, .int .i64 0]) := kR
theorem bs276_5 (v0_0 v1_0 v2_0 v3_0 v4_0 : V) : buildSliceL Tryz.prog 276 5 [(0, [v0_0]), (1, [v1_0]), (2, [v2_0]), (3, [v3_0]), (4, [v4_0])] = some ([v0_0, v1_0, v2_0, v3_0, v4_0], 275) := kR
theorem ia276 (k o n m : Nat) (kd : IntKind) (i : Int) : indexAddrV Tryz.prog 276 (.slice k o n m) (.int kd i) = if 0 ≤ i ∧ i < n then some (.ptr k (o + i.toNat * 1)) else none := indexAddr_slice (e := 275) kR kR k o n m kd i
theorem ty275 : tyR Tryz.prog 275 = some (1, false) := kR
theorem fa273_0 (k o : Nat) : fieldAddrV Tryz.prog 273 (.ptr k o) 0 = some (.ptr k (o + 0)) := kR
theorem fa273_1 (k o : Nat) : fieldAddrV Tryz.prog 273 (.ptr k o) 1 = some (.ptr k (o + 1)) := kR
theorem bu112 : buildV Tryz.prog 112 [] = some (.agg [.str [], .str [], .str [], .str [], .str [], .int .u16 0, .int .u32 0, .int .u8 0, .int .u16 0, .int .u8 0]) := kR
theorem cj {a b : Prop} (x : a) (y : b) : a ∧ b := ⟨x, y⟩
noncomputable def factsT := cj @Tryz.underlying2 <| cj @Tryz.underlying3 <| cj @Tryz.underlying4 <| cj @Tryz.underlying5 <| cj @Tryz.underlying9 <| cj @Tryz.underlying24 <| cj @Tryz.underlying25 <| cj @Tryz.underlying32 <| cj @Tryz.underlying33 <| cj @Tryz.underlying34 <| cj @Tryz.underlying35 <| cj @Tryz.underlying37 <| cj @Tryz.underlying38 <| cj @Tryz.underlying39 <| cj @Tryz.underlying42 <| cj @Tryz.underlying43 <| cj @Tryz.underlying45 <| cj @Tryz.underlying48 <| cj @Tryz.underlying50 <| cj @Tryz.underlying52 <| cj @Tryz.underlying58 <| cj @Tryz.underlying61 <| cj @Tryz.underlying63 <| cj @Tryz.underlying65 <| cj @Tryz.underlying67 <| cj @Tryz.underlying71 <| cj @Tryz.underlying75 <| cj @Tryz.underlying77 <| cj @Tryz.underlying83 <| cj @Tryz.underlying102 <| cj @Tryz.underlying110 <| cj @Tryz.underlying112 <| cj @Tryz.underlying114 <| cj @Tryz.underlying122 <| cj @Tryz.underlying124 <| cj @Tryz.underlying134 <| cj @Tryz.underlying144 <| cj @Tryz.underlying148 <| cj @Tryz.underlying172 <| cj @Tryz.underlying200 <| cj @Tryz.underlying202 <| cj @Tryz.underlying206 <| cj @Tryz.underlying222 <| cj @Tryz.underlying256 <| cj @Tryz.underlying271 <| cj @Tryz.underlying276 <| cj @ze24 <| cj @sz24 <| cj @ty37 <| cj @bs48_1 <| cj @bs48_2 <| cj @bs38_2 <| cj @ia39 <| cj @ty38 <| cj @ia45 <| cj @ty48 <| cj @ia48 <| cj @ty5 <| cj @ty24 <| cj @bu24 <| cj @ty52 <| cj @fa52_0 <| cj @ze71 <| cj @sz71 <| cj @fa71_1 <| cj @ty4 <| cj @fa71_0 <| cj @ty3 <| cj @fa52_1 <| cj @ty9 <| cj @ze77 <| cj @sz77 <| cj @fa77_0 <| cj @ty25 <| cj @ia75 <| cj @fa81_0 <| cj @fa81_1 <| cj @ty81 <| cj @ze81 <| cj @sz81 <| cj @bs38_1 <| cj @ap38 <| cj @fa24_1 <| cj @sz3 <| cj @ia38 <| cj @fa24_0 <| cj @fa37_0 <| cj @ty2 <| cj @fa37_1 <| cj @fa37_2 <| cj @fa37_3 <| cj @ty33 <| cj @fa37_4 <| cj @ty32 <| cj @fa37_5 <| cj @ty34 <| cj @bs38_6 <| cj @bs39_1 <| cj @ia32 <| cj @ty31 <| cj @ze31 <| cj @sz31 <| cj @fa31_0 <| cj @fa31_1 <| cj @ap39 <| cj @fa37_6 <| cj @ty35 <| cj @ia35 <| cj @ty95 <| cj @ze95 <| cj @sz95 <| cj @fa95_0 <| cj @fa95_1 <| cj @ze52 <| cj @sz52 <| cj @ia102 <| cj @ty104 <| cj @ze104 <| cj @sz104 <| cj @ia104 <| cj @ty43 <| cj @ap48 <| cj @fa52_5 <| cj @ty42 <| cj @fa52_2 <| cj @fa52_4 <| cj @bs48_5 <| cj @fa52_3 <| cj @ty50 <| cj @fa52_6 <| cj @fa52_7 <| cj @ia34 <| cj @fa109_1 <| cj @fa109_2 <| cj @ia110 <| cj @ty112 <| cj @ze112 <| cj @sz112 <| cj @bu116_0_1_12_11 <| cj @fa116_6 <| cj @sz110 <| cj @ty71 <| cj @bu71 <| cj @fa116_2 <| cj @ty114 <| cj @fa116_4 <| cj @ty77 <| cj @bu77_0_1 <| cj @bs122_7 <| cj @ia122 <| cj @ty121 <| cj @ze124 <| cj @sz124 <| cj @fa124_2 <| cj @fa124_1 <| cj @fa124_0 <| cj @fa81_2 <| cj @bs75_1 <| cj @ap75 <| cj @bu77 <| cj @bu126_1_2_3_4_5_6_7_8_9_10 <| cj @ze126 <| cj @sz126 <| cj @ia126 <| cj @sz9 <| cj @ia33 <| cj @ty132 <| cj @ze132 <| cj @sz132 <| cj @fa132_1 <| cj @fa132_3 <| cj @bs38_5_1_2_3_4 <| cj @fa132_0 <| cj @fa132_2 <| cj @bs38_4 <| cj @ty109 <| cj @ze109 <| cj @sz109 <| cj @bs38_9 <| cj @fa109_3 <| cj @fa109_0 <| cj @fa109_4 <| cj @bs38_5 <| cj @bu136_0 <| cj @bu52_0 <| cj @fa136_1 <| cj @bu52 <| cj @by48 <| cj @el48 <| cj @sz42 <| cj @sz5 <| cj @sz25 <| cj @sz48 <| cj @sz50 <| cj @fa136_0 <| cj @bu63_2 <| cj @bs45_1 <| cj @bu65_0_1_2 <| cj @bu112_3_4_5_6_7 <| cj @ap45 <| cj @bu67_1 <| cj @bu148_0_3 <| cj @ze148 <| cj @sz148 <| cj @bu148 <| cj @ty148 <| cj @bs144_1 <| cj @ap144 <| cj @bu104 <| cj @bs102_3 <| cj @bs48_0 <| cj @fa112_0 <| cj @fa112_1 <| cj @fa112_2 <| cj @fa112_3 <| cj @fa112_4 <| cj @fa112_7 <| cj @bs110_0 <| cj @ap110 <| cj @sz114 <| cj @fa116_3 <| cj @sz4 <| cj @fa116_0 <| cj @ze67 <| cj @sz67 <| cj @ty67 <| cj @bu71_0_1_4 <| cj @bu71_0_1 <| cj @bu71_0 <| cj @fa116_5 <| cj @fa116_7 <| cj @ze69 <| cj @sz69 <| cj @fa69_2 <| cj @fa69_1 <| cj @fa116_8 <| cj @ty69 <| cj @bu71_0_1_5 <| cj @fa116_1 <| cj @fa67_1 <| cj @fa116_11 <| cj @ty110 <| cj @ze65 <| cj @sz65 <| cj @ty65 <| cj @bu71_0_1_3 <| cj @ps58 <| cj @fa116_12 <| cj @ty124 <| cj @bu124 <| cj @bu124_2 <| cj @bu81_0_1 <| cj @bu124_0_1 <| cj @ze174 <| cj @bs122_3 <| cj @bu81_0 <| cj @fa63_5 <| cj @ty63 <| cj @fa63_0 <| cj @ty61 <| cj @fa63_1 <| cj @fa63_2 <| cj @fa63_3 <| cj @fa63_4 <| cj @fa65_1 <| cj @fa65_2 <| cj @fa112_5 <| cj @fa112_6 <| cj @fa112_8 <| cj @fa112_9 <| cj @ia144 <| cj @fa148_0 <| cj @fa148_3 <| cj @ze63 <| cj @sz63 <| cj @fa116_10 <| cj @bu71_0_1_2 <| cj @bu67 <| cj @bu208_0 <| cj @fa208_1 <| cj @fa208_0 <| cj @ty200 <| cj @ze200 <| cj @sz200 <| cj @fa200_0 <| cj @bu65_0 <| cj @bu65 <| cj @fa174_1 <| cj @fa148_1 <| cj @bu148_0_1 <| cj @fa148_2 <| cj @bu148_0_2 <| cj @fa148_4 <| cj @ty146 <| cj @bu148_0_4 <| cj @bu200_0 <| cj @ty202 <| cj @ze202 <| cj @bu202_0_1_2_3_4_5_6_7_8_9_10_11_12_13_15_16_245_246_247_248_249_250_251_252_253_254_255 <| cj @sz202 <| cj @bu63_0_1_2_3 <| cj @bu63 <| cj @bu67_0_1 <| cj @bs110_1 <| cj @fa200_1 <| cj @fa174_0 <| cj @ty172 <| cj @ps172 <| cj @sz172 <| cj @bu273_0 <| cj @bs276_5 <| cj @ia276 <| cj @ty275 <| cj @fa273_0 <| cj @fa273_1 @bu112
end
noncomputable section
structure Set0 where
 exts : List (FuncId × (List V → M V))
 gl : T (List V)
noncomputable def Set0.cfg (S : Set0) : Cfg := { P := Tryz.prog, lf := 0, gl := S.gl, sum := sums S.exts }
end
end Go.Proofs.YtfgnpegkcmkeaaaGreatDoor
set_option maxHeartbeats 1000000
namespace Go.Proofs.YtfgnpegkcmkeaaaGreatDoor.Ad
open Int (reduceLE reduceLT reduceToNat)
open Nat (reduceLeDiff reduceEqDiff reduceAdd)
open Go.Proofs Go.Lx Go.Wx
noncomputable section
structure Std (S : Set0) : Prop where
 own : ∀ f, f ∈ [93, 94, 95, 96, 137, 138, 99, 100, 142, 52, 53, 54, 55, 56, 57, 58, 59, 19, 97, 98, 101, 102, 103, 140, 141, 169] → sums S.exts f = none
 idx : sums S.exts 165 = some (pureM idxStr)
 same : sums S.exts 170 = some (pureM sameV)
 index : sums S.exts 139 = some (pureM index2)
 decode : sums S.exts 143 = some (pureM decStr)
theorem cfgP (S : Set0) : S.cfg.P = Tryz.prog := rfl
noncomputable def facts := And.intro @cfgP <| @factsT
noncomputable def Knx := And.intro @push_nx <| And.intro @put_nx @del_nx
noncomputable def K3 := And.intro @clsL.eq_1 <| And.intro @clsL.eq_2 <| And.intro @clsL.eq_3 <| And.intro @clsS.eq_1 <| And.intro @clsS.eq_2 <| And.intro @clsC.eq_1 <| And.intro @clsC.eq_2 @clsC.eq_3
noncomputable def fq := And.intro @facts <| And.intro @K3 <| And.intro @isPtrD.eq_1 @isPtrD.eq_2
noncomputable def fW := And.intro @facts <| And.intro @wpb <| And.intro @cst <| And.intro @wpk <| And.intro @wpl <| And.intro @forall_const.{0} <| And.intro @forall_const.{1} <| And.intro @implies_true.{0} <| And.intro @implies_true.{1} <| And.intro @false_implies @K3
theorem inn {S : Set0} {Ok : Nat → Prop} {f : FuncId} {args : List V} {h : H} {K : V → H → Prop} {fn : Func} {code : Code} (hf : Tryz.prog.funcs[f]? = some fn) (hs : sums S.exts f = none) (hn : (fn.name == "runtime.NumGoroutine") = false) (hb : fn.body = some code) (hw : run S.cfg (fresh h.nx Ok) [] code (argE args) h (endQ S.cfg fn.results.toList K)) (hok : okCode fn.ntmps code = true := by kernel_rfl) (hd : noDefer code = true := by kernel_rfl) : callW S.cfg Ok f args h K := into fn code hf hs hn hb hok hd hw
theorem dd {P : Prop} (h : P := by first | (simp only [fq]; done) | omega | (simp only [Knx]; omega) | (apply Nat.le_antisymm <;> simp only [Knx] <;> omega) | fail) : P := h
theorem de {P : Prop} (h : P := by first | (simp only [fq]; done) | omega | (simp only [Knx]; omega) | (apply Nat.le_antisymm <;> simp only [Knx] <;> omega) | exact dok (by kernel_rfl)) : P := h
theorem ww0 {A B : Prop} (b : B) (h : A = B := by simp +contextual (disch := first | (simp only [fq]; done) | omega | (simp only [Knx]; omega) | (apply Nat.le_antisymm <;> simp only [Knx] <;> omega) | fail) only [wpy, fW, Int.reduceLE, Int.reduceLT, Nat.reduceLeDiff, UInt8.reduceToNat, ↓reduceIte, Nat.reduceEqDiff, Nat.reduceAdd, reduceCtorEq, Int.reduceToNat]; rfl) : A := (h).mpr b
theorem ww1 {X A B : Prop} (x : X) (b : B) (h : X → A = B := by intro x; simp +contextual (disch := first | (simp only [fq]; done) | omega | (simp only [Knx]; omega) | (apply Nat.le_antisymm <;> simp only [Knx] <;> omega) | fail) only [wpy, fW, Int.reduceLE, Int.reduceLT, Nat.reduceLeDiff, UInt8.reduceToNat, ↓reduceIte, Nat.reduceEqDiff, Nat.reduceAdd, reduceCtorEq, Int.reduceToNat, x]; rfl) : A := (h x).mpr b
theorem wr0 {A B : Prop} (b : B) (h : A = B := by simp +contextual (disch := first | (simp only [fq]; done) | omega | (simp only [Knx]; omega) | (apply Nat.le_antisymm <;> simp only [Knx] <;> omega) | fail) only [wpyr, fW, Int.reduceLE, Int.reduceLT, Nat.reduceLeDiff, UInt8.reduceToNat, ↓reduceIte, Nat.reduceEqDiff, Nat.reduceAdd, reduceCtorEq, Int.reduceToNat]; rfl) : A := (h).mpr b
theorem wr1 {X A B : Prop} (x : X) (b : B) (h : X → A = B := by intro x; simp +contextual (disch := first | (simp only [fq]; done) | omega | (simp only [Knx]; omega) | (apply Nat.le_antisymm <;> simp only [Knx] <;> omega) | fail) only [wpyr, fW, Int.reduceLE, Int.reduceLT, Nat.reduceLeDiff, UInt8.reduceToNat, ↓reduceIte, Nat.reduceEqDiff, Nat.reduceAdd, reduceCtorEq, Int.reduceToNat, x]; rfl) : A := (h x).mpr b
theorem wv0 {A : Prop} (h : A := by simp +contextual (disch := first | (simp only [fq]; done) | omega | (simp only [Knx]; omega) | (apply Nat.le_antisymm <;> simp only [Knx] <;> omega) | fail) only [wpy, fW, Int.reduceLE, Int.reduceLT, Nat.reduceLeDiff, UInt8.reduceToNat, ↓reduceIte, Nat.reduceEqDiff, Nat.reduceAdd, reduceCtorEq, Int.reduceToNat]) : A := h
theorem wv1 {X A : Prop} (x : X) (h : X → A := by intro x; simp +contextual (disch := first | (simp only [fq]; done) | omega | (simp only [Knx]; omega) | (apply Nat.le_antisymm <;> simp only [Knx] <;> omega) | fail) only [wpy, fW, Int.reduceLE, Int.reduceLT, Nat.reduceLeDiff, UInt8.reduceToNat, ↓reduceIte, Nat.reduceEqDiff, Nat.reduceAdd, reduceCtorEq, Int.reduceToNat, x]) : A := h x
theorem wew0 {A B : Prop} (b : B) (h : A = B := by simp +contextual (disch := first | (simp only [fq]; done) | omega | (simp only [Knx]; omega) | (apply Nat.le_antisymm <;> simp only [Knx] <;> omega) | fail) only [wpy, fW, Int.reduceLE, Int.reduceLT, Nat.reduceLeDiff, UInt8.reduceToNat, ↓reduceIte, Nat.reduceEqDiff, Nat.reduceAdd, reduceCtorEq, Int.reduceToNat, Int.reduceEq]; rfl) : A := (h).mpr b
theorem wew1 {X A B : Prop} (x : X) (b : B) (h : X → A = B := by intro x; simp +contextual (disch := first | (simp only [fq]; done) | omega | (simp only [Knx]; omega) | (apply Nat.le_antisymm <;> simp only [Knx] <;> omega) | fail) only [wpy, fW, Int.reduceLE, Int.reduceLT, Nat.reduceLeDiff, UInt8.reduceToNat, ↓reduceIte, Nat.reduceEqDiff, Nat.reduceAdd, reduceCtorEq, Int.reduceToNat, Int.reduceEq, x]; rfl) : A := (h x).mpr b
theorem wer1 {X A B : Prop} (x : X) (b : B) (h : X → A = B := by intro x; simp +contextual (disch := first | (simp only [fq]; done) | omega | (simp only [Knx]; omega) | (apply Nat.le_antisymm <;> simp only [Knx] <;> omega) | fail) only [wpyr, fW, Int.reduceLE, Int.reduceLT, Nat.reduceLeDiff, UInt8.reduceToNat, ↓reduceIte, Nat.reduceEqDiff, Nat.reduceAdd, reduceCtorEq, Int.reduceToNat, Int.reduceEq, x]; rfl) : A := (h x).mpr b
theorem ws0 {A B : Prop} (b : B) (h : A = B := by simp +contextual (disch := first | (simp only [fq]; done) | omega) only [wps, fW, Int.reduceLE, Int.reduceLT, Nat.reduceLeDiff, UInt8.reduceToNat, ↓reduceIte, Nat.reduceEqDiff, Nat.reduceAdd, reduceCtorEq, Int.reduceToNat]; rfl) : A := (h).mpr b
theorem ws1 {X A B : Prop} (x : X) (b : B) (h : X → A = B := by intro x; simp +contextual (disch := first | (simp only [fq]; done) | omega) only [wps, fW, Int.reduceLE, Int.reduceLT, Nat.reduceLeDiff, UInt8.reduceToNat, ↓reduceIte, Nat.reduceEqDiff, Nat.reduceAdd, reduceCtorEq, Int.reduceToNat, x]; rfl) : A := (h x).mpr b
theorem wt1 {X A : Prop} (x : X) (h : X → A := by intro x; simp +contextual (disch := first | (simp only [fq]; done) | omega) only [wps, fW, Int.reduceLE, Int.reduceLT, Nat.reduceLeDiff, UInt8.reduceToNat, ↓reduceIte, Nat.reduceEqDiff, Nat.reduceAdd, reduceCtorEq, Int.reduceToNat, x]) : A := h x
theorem wds1 {X A B : Prop} (x : X) (b : B) (h : X → A = B := by intro x; simp +contextual (disch := first | (simp only [fq]; done) | omega | exact dok (by kernel_rfl)) only [draw_calm, draw_calmA, wps, fW, Int.reduceLE, Int.reduceLT, Nat.reduceLeDiff, UInt8.reduceToNat, ↓reduceIte, Nat.reduceEqDiff, Nat.reduceAdd, reduceCtorEq, Int.reduceToNat, x]; rfl) : A := (h x).mpr b
theorem nice_pureM (F : List V → Option V) (vs : List V) : Nice (pureM F vs) := by
 unfold pureM
 cases F vs with
 | none => exact Nice.err _
 | some v => exact Nice.ret _
theorem sum_exact {S : Set0} {f : FuncId} {F : List V → Option V} {args : List V} {h : H} {v : V} (hs : sums S.exts f = some (pureM F)) (hv : F args = some v) : Exact S.cfg f args h v := by
 refine callW_sum (s := h.st) hs (nice_pureM _ _) ?_ LogOk_nil ⟨rfl, rfl⟩
 unfold pureM
 rw [hv]
 rfl
variable {S : Set0} (hS : Std S)
include hS
theorem hasPrefixL_spec (s p : List Nat) (h : H) : Exact S.cfg 137 [.str s, .str p] h (bo (p.length ≤ s.length ∧ s.take p.length = p)) := by
 refine inn Tryz.func137 (hS.own _ dC) rfl rfl ?_
 exact wt1 @Tryz.f137.eq_1
theorem hasPrefix_spec (s p : List Nat) (h : H) : Exact S.cfg 94 [.str s, .str p] h (bo (p.length ≤ s.length ∧ s.take p.length = p)) := by
 refine inn Tryz.func94 (hS.own _ dC) rfl rfl ?_
 refine ws1 @Tryz.f94.eq_1 ?_
 refine callF_exact (hasPrefixL_spec hS _ _ _) ?_
 exact wt1 @Tryz.f94.eq_1
theorem indexByteL_spec (s : List Nat) (b : Nat) (hb : b < 256) (h : H) : Exact S.cfg 138 [.str s, .int .u8 b] h (.int .i64 (idxNats s b)) := by
 refine inn Tryz.func138 (hS.own _ dC) rfl rfl ?_
 refine ws1 @Tryz.f138.eq_1 ?_
 refine callF_exact (sum_exact hS.idx (v := .int .i64 (idxNats s b)) ?_) ?_
 ·have : (b : Int) < 256 := oM
  simp [idxStr, this]
 ·exact wt1 @Tryz.f138.eq_1
theorem indexByte_spec (s : List Nat) (b : Nat) (hb : b < 256) (h : H) : Exact S.cfg 95 [.str s, .int .u8 b] h (.int .i64 (idxNats s b)) := by
 refine inn Tryz.func95 (hS.own _ dC) rfl rfl ?_
 refine ws1 @Tryz.f95.eq_1 ?_
 refine callF_exact (indexByteL_spec hS s b hb h) ?_
 exact wt1 @Tryz.f95.eq_1
theorem index_spec (s p : List Nat) (hs : s.length < 4294967281) (h : H) : Exact S.cfg 96 [.str s, .str p] h (.int .i64 (indexN p s 0)) := by
 refine inn Tryz.func96 (hS.own _ dC) rfl rfl ?_
 refine ws1 @Tryz.f96.eq_1 ?_
 refine callF_exact (sum_exact hS.index (v := .int .i64 (indexN p s 0)) ?_) ?_
 ·have : Nat.blt s.length 4294967281 = true := by simpa [Nat.blt_eq] using hs
  simp [index2, this]
 ·exact wt1 @Tryz.f96.eq_1
theorem decode_spec (s : List Nat) (h : H) : Exact S.cfg 143 [.str s] h (.tuple [.int .i32 (decG s).1, .int .i64 (decG s).2]) := sum_exact hS.decode rfl
end
end Go.Proofs.YtfgnpegkcmkeaaaGreatDoor.Ad
set_option maxRecDepth 10000
namespace Go.Proofs.YtfgnpegkcmkeaaaGreatDoor.Ad
open Int (reduceLE reduceLT reduceToNat)
open Nat (reduceLeDiff reduceEqDiff reduceAdd)
open Go.Proofs Go.Lx Go.Wx Go.IntWalk
noncomputable section
variable {S : Set0} (hS : Std S)
def isDigit (b : Nat) : Prop := 48 ≤ b ∧ b ≤ 57
instance (b : Nat) : Decidable (isDigit b) := inferInstanceAs (Decidable (_ ∧ _))
def isBlank (b : Nat) : Prop := (9 ≤ b ∧ b ≤ 13) ∨ b = 32
instance (b : Nat) : Decidable (isBlank b) := inferInstanceAs (Decidable (_ ∨ _))
def isHex (b : Nat) : Prop := isDigit b ∨ (97 ≤ b ∧ b ≤ 102) ∨ (65 ≤ b ∧ b ≤ 70)
instance (b : Nat) : Decidable (isHex b) := inferInstanceAs (Decidable (_ ∨ _))
def Bytes (s : List Nat) : Prop := ∀ b ∈ s, b < 256
theorem Bytes.getD {s : List Nat} (h : Bytes s) (i : Nat) : s.getD i 0 < 256 := by
 rw [List.getD_eq_getElem?_getD]
 cases hi : s[i]? with
 | none => simp
 | some b => exact h b (List.mem_of_getElem? hi)
theorem Bytes.drop {s : List Nat} (h : Bytes s) (i : Nat) : Bytes (s.drop i) := fun b hb => h b (List.mem_of_mem_drop hb)
theorem Bytes.take {s : List Nat} (h : Bytes s) (i : Nat) : Bytes (s.take i) := fun b hb => h b (List.mem_of_mem_take hb)
def countW (p : Nat → Prop) [DecidablePred p] (l : List Nat) : Nat := (l.takeWhile fun b => decide (p b)).length
theorem countW_le (p : Nat → Prop) [DecidablePred p] (l : List Nat) : countW p l ≤ l.length := by
 unfold countW
 exact (List.takeWhile_sublist _).length_le
theorem countW_step {p : Nat → Prop} [DecidablePred p] {s : List Nat} {i : Nat} (hi : i ≤ countW p s) (hlt : i < s.length) (hp : p (s.getD i 0)) : i + 1 ≤ countW p s := by
 unfold countW at *
 induction s generalizing i with
 | nil => simp at hlt
 | cons x l ih =>
   cases i with
   | zero => simp at hp; simp [List.takeWhile_cons, hp]
   | succ i =>
     by_cases hx : p x
     ·simp [List.takeWhile_cons, hx] at hi ⊢
      exact ih hi (by simpa using hlt) (by simpa using hp)
     ·simp [List.takeWhile_cons, hx] at hi
theorem countW_stop {p : Nat → Prop} [DecidablePred p] {s : List Nat} {i : Nat} (hi : i ≤ countW p s) (hs : s.length ≤ i ∨ ¬ p (s.getD i 0)) : i = countW p s := by
 unfold countW at *
 induction s generalizing i with
 | nil => simp at hi ⊢; exact hi
 | cons x l ih =>
   cases i with
   | zero =>
     rcases hs with hs | hs
     ·simp at hs
     ·simp at hs; simp [List.takeWhile_cons, hs]
   | succ i =>
     by_cases hx : p x
     ·simp [List.takeWhile_cons, hx] at hi ⊢
      exact ih hi (by simpa using hs)
     ·simp [List.takeWhile_cons, hx] at hi
theorem or32_hex : ∀ b : Fin 256, (97 ≤ iOr .u8 (b.val : Nat) 32 ∧ iOr .u8 (b.val : Nat) 32 ≤ 102) ↔ ((97 ≤ b.val ∧ b.val ≤ 102) ∨ (65 ≤ b.val ∧ b.val ≤ 70)) := by decide +kernel
theorem blank_tab : ∀ b : Fin 256, 0 ≤ idxNats [9, 10, 11, 12, 13, 32] b.val ↔ isBlank b.val := by decide +kernel
include hS
theorem digit_spec (b : Nat) (h : H) : Exact S.cfg 169 [.int .u8 b] h (bo (isDigit b)) := by
 refine inn Tryz.func169 (hS.own _ dC) rfl rfl ?_
 refine ws1 @Tryz.f169.eq_1 ?_
 exact bo_eq (by unfold isDigit; omega)
theorem digits_spec (s : List Nat) (h : H) (hs : s.length < 2 ^ 62) : Exact S.cfg 141 [.str s] h (.int .i64 (countW isDigit s)) := by
 refine inn Tryz.func141 (hS.own _ dC) rfl rfl ?_
 refine ws0 ?_
 refine run_loop (fun m env h' => ∃ i : Nat, m = s.length - i ∧ env 3 = .int .i64 i ∧ env 0 = .str s ∧ i ≤ s.length ∧ i ≤ countW isDigit s ∧ h' = h) (s.length) ⟨0, by refine ws0 ?_; simp⟩ ?_
 rintro m env h' ⟨i, rfl, h3, h0, hi, hd, rfl⟩
 refine ws1 (cj h3 <| cj h0 @Tryz.f141.eq_1) ?_
 refine gCall_exact (first := []) (cap := []) (fun hlt => digit_spec hS _ _) (fun fp => ?_)
 refine ws1 (cj h3 <| cj h0 @Tryz.f141.eq_1) ?_
 refine ⟨fun hlt => ?_, fun hn => ?_⟩
 ·exact ⟨_, by omega, i + 1, rfl, rfl, by omega, countW_step hd hlt.1 hlt.2⟩
 ·rw [countW_stop hd (by by_cases hlt : i < s.length; exact .inr (fun q => hn ⟨hlt, q⟩); exact .inl oM)]
theorem hex_spec (s : List Nat) (h : H) (hs : s.length < 2 ^ 62) (hb : Bytes s) : Exact S.cfg 140 [.str s] h (.int .i64 (countW isHex s)) := by
 refine inn Tryz.func140 (hS.own _ dC) rfl rfl ?_
 refine ws0 ?_
 refine run_loop (fun m env h' => ∃ i : Nat, m = s.length - i ∧ env 3 = .int .i64 i ∧ env 0 = .str s ∧ i ≤ s.length ∧ i ≤ countW isHex s ∧ h' = h) (s.length) ⟨0, by refine ws0 ?_; simp⟩ ?_
 rintro m env h' ⟨i, rfl, h3, h0, hi, hd, rfl⟩
 refine ws1 (cj h3 <| cj h0 @Tryz.f140.eq_1) ?_
 refine gCall_exact (first := []) (cap := []) (fun hlt => digit_spec hS _ _) (fun fp => ?_)
 have hx := or32_hex ⟨s.getD i 0, hb.getD i⟩
 simp only at hx
 refine ws1 (cj h3 <| cj h0 <| cj @Tryz.f140.eq_1 hx) ?_
 refine ⟨fun hlt => ?_, fun hn => ?_⟩
 ·exact ⟨_, by omega, i + 1, rfl, rfl, by omega, countW_step hd hlt.1 hlt.2⟩
 ·rw [countW_stop hd (by by_cases hlt : i < s.length; exact .inr (fun q => hn ⟨hlt, q⟩); exact .inl oM)]
theorem blank_spec (b : Nat) (hb : b < 256) (h : H) : Exact S.cfg 93 [.int .u8 b] h (bo (isBlank b)) := by
 refine inn Tryz.func93 (hS.own _ dC) rfl rfl ?_
 refine ws1 @Tryz.f93.eq_1 ?_
 refine callF_exact (indexByte_spec hS _ _ hb _) ?_
 refine ws1 @Tryz.f93.eq_1 ?_
 exact bo_eq (blank_tab ⟨b, hb⟩)
omit hS
def foundV (kind : Nat) (text : List Nat) (n : Nat) (e : Nat) : V := .agg [.int .i64 kind, .str text, .int .i64 (0 : Nat), .int .i64 n, .int .i64 e]
def hexPre (s : List Nat) : Prop := (2 ≤ s.length ∧ s.take 2 = [48, 120]) ∨ (2 ≤ s.length ∧ s.take 2 = [48, 88])
instance (s : List Nat) : Decidable (hexPre s) := inferInstanceAs (Decidable (_ ∨ _))
def deci (s : List Nat) : Nat := if countW isDigit s < s.length ∧ s.getD (countW isDigit s) 0 = 46 ∧ 0 < countW isDigit s + countW isDigit (s.drop (countW isDigit s + 1)) then countW isDigit s + 1 + countW isDigit (s.drop (countW isDigit s + 1)) else countW isDigit s
def expK (s : List Nat) (n : Nat) : Nat := if n + 1 < s.length ∧ (s.getD (n + 1) 0 = 43 ∨ s.getD (n + 1) 0 = 45) then n + 2 else n + 1
def expo (s : List Nat) (n : Nat) : Nat := if n < s.length ∧ (s.getD n 0 = 101 ∨ s.getD n 0 = 69) ∧ 0 < countW isDigit (s.drop (expK s n)) then expK s n + countW isDigit (s.drop (expK s n)) else n
def numN (s : List Nat) : Nat := if hexPre s ∧ 0 < countW isHex (s.drop 2) then 2 + countW isHex (s.drop 2) else if deci s = 0 then 0 else expo s (deci s)
def numF (s : List Nat) : V := if numN s = 0 then foundV 0 [] 0 0 else foundV 4 (s.take (numN s)) (numN s) 0
theorem numF_of {s : List Nat} {n : Nat} (hN : numN s = n) (h0 : n ≠ 0) : numF s = foundV 4 (s.take n) n 0 := by
 unfold numF
 rw [hN, if_neg h0]
theorem or32_e : ∀ b : Fin 256, iOr .u8 (b.val : Nat) 32 = 101 ↔ (b.val = 101 ∨ b.val = 69) := by decide +kernel
include hS
theorem number_spec (s : List Nat) (h : H) (hs : s.length < 2 ^ 61) (hb : Bytes s) : Pure S.cfg 97 [.str s] h fun v _ => v = numF s := by
 have hc1 := countW_le isHex (s.drop 2)
 have hc2 := countW_le isDigit s
 rw [List.length_drop] at hc1
 refine inn Tryz.func97 (hS.own _ dC) rfl rfl ?_
 simp +contextual (disch := first | (simp only [fq]; done) | omega) only [wpr, fW, reduceLE, reduceLT, reduceLeDiff, UInt8.reduceToNat, ↓reduceIte, reduceEqDiff, reduceAdd, reduceCtorEq, reduceToNat, Tryz.f97]
 refine callF_exact (hasPrefix_spec hS _ _ _) ?_
 simp +contextual (disch := first | (simp only [fq]; done) | omega) only [wpr, fW, reduceLE, reduceLT, reduceLeDiff, UInt8.reduceToNat, ↓reduceIte, reduceEqDiff, reduceAdd, reduceCtorEq, reduceToNat, Tryz.f97]
 refine gCall_exact (first := []) (cap := []) (fun hlt => hasPrefix_spec hS _ _ _) (fun fp => ?_)
 simp +contextual (disch := first | (simp only [fq]; done) | omega) only [wpr, fW, reduceLE, reduceLT, reduceLeDiff, UInt8.reduceToNat, ↓reduceIte, reduceEqDiff, reduceAdd, reduceCtorEq, reduceToNat, Tryz.f97]
 refine run_cut (fun env' h' => env' 0 = .str s ∧ env' 2 = .ptr h.nx 0 ∧ h' = h.push (.cells [.int .i64 0, .str [], .int .i64 0, .int .i64 0, .int .i64 0] 124 false) ∧ ¬ (hexPre s ∧ 0 < countW isHex (s.drop 2))) ?_ ?_
 ·refine ws1 @Tryz.f97.eq_1 ?_
  refine ⟨fun hp => ⟨by rcases hp with hp | hp <;> omega, ?_⟩, fun hp q => hp q.1⟩
  have hl : 2 ≤ s.length := by rcases hp with hp | hp <;> exact hp.1
  refine callF_exact (hex_spec hS _ _ (by rw [List.length_drop]; omega) (hb.drop 2)) ?_
  refine ws1 @Tryz.f97.eq_1 ?_
  intro hn
  refine ⟨by omega, ((Ext.refl h).push _).put (Nat.le_refl _) _, ?_⟩
  rw [numF_of (n := 2 + countW isHex (s.drop 2)) (by rw [numN, if_pos ⟨hp, hn⟩]) oM]
  rfl
 ·rintro env' h' ⟨h0, h2, rfl, hnh⟩
  have hN : numN s = if deci s = 0 then 0 else expo s (deci s) := by rw [numN, if_neg hnh]
  simp +contextual (disch := first | (simp only [fq]; done) | omega) only [wpr, fW, reduceLE, reduceLT, reduceLeDiff, UInt8.reduceToNat, ↓reduceIte, reduceEqDiff, reduceAdd, reduceCtorEq, reduceToNat, Tryz.f97, h0, h2]
  refine callF_exact (digits_spec hS _ _ oM) ?_
  simp +contextual (disch := first | (simp only [fq]; done) | omega) only [wpr, fW, reduceLE, reduceLT, reduceLeDiff, UInt8.reduceToNat, ↓reduceIte, reduceEqDiff, reduceAdd, reduceCtorEq, reduceToNat, Tryz.f97, h0, h2]
  refine run_cut (fun env' h' => env' 0 = .str s ∧ env' 2 = .ptr h.nx 0 ∧ env' 4 = .int .i64 (deci s) ∧ h' = h.push (.cells [.int .i64 0, .str [], .int .i64 0, .int .i64 0, .int .i64 0] 124 false)) ?_ ?_
  ·refine ws1 (cj @Tryz.f97.eq_1 <| cj h0 h2) ?_
   refine ⟨fun hp => ⟨by omega, ?_⟩, fun hp => ?_⟩
   ·have hc3 := countW_le isDigit (s.drop (countW isDigit s + 1))
    rw [List.length_drop] at hc3
    refine callF_exact (digits_spec hS _ _ (by rw [List.length_drop]; omega)) ?_
    refine ws1 (cj @Tryz.f97.eq_1 <| cj h0 h2) ?_
    refine ⟨fun hq => ?_, fun hq => ?_⟩
    ·rw [deci, if_pos ⟨hp.1, hp.2, by omega⟩]
     omega
    ·rw [deci, if_neg oM]
   ·rw [deci, if_neg (fun q => hp ⟨q.1, q.2.1⟩)]
  ·rintro env' h' ⟨h0, h2, h4, rfl⟩
   have hd4 : deci s ≤ s.length := by
    have hc3 := countW_le isDigit (s.drop (countW isDigit s + 1))
    rw [List.length_drop] at hc3
    unfold deci
    split <;> omega
   have hx := or32_e ⟨s.getD (deci s) 0, hb.getD _⟩
   simp only at hx
   refine ws1 (cj @Tryz.f97.eq_1 <| cj h0 <| cj h2 <| cj h4 hx) ?_
   refine ⟨fun hz => ⟨((Ext.refl h).push _).put (Nat.le_refl _) _, ?_⟩, fun hz => ⟨fun he => ⟨fun hk => ⟨by omega, ?_⟩, fun hk => ⟨by omega, ?_⟩⟩, fun he => ⟨by omega, ((Ext.refl h).push _).put (Nat.le_refl _) _, ?_⟩⟩⟩
   ·rw [numF, hN, if_pos hz, if_pos rfl]
    rfl
   ·have hK : expK s (deci s) = deci s + 1 + 1 := by rw [expK, if_pos hk]
    have hc := countW_le isDigit (s.drop (deci s + 1 + 1))
    rw [List.length_drop] at hc
    refine callF_exact (digits_spec hS _ _ (by rw [List.length_drop]; omega)) ?_
    refine ws1 (cj @Tryz.f97.eq_1 <| cj h0 <| cj h2 h4) ?_
    refine ⟨fun hm => ⟨by omega, ((Ext.refl h).push _).put (Nat.le_refl _) _, ?_⟩, fun hm => ⟨by omega, ((Ext.refl h).push _).put (Nat.le_refl _) _, ?_⟩⟩
    ·rw [numF_of (n := deci s + 1 + 1 + countW isDigit (s.drop (deci s + 1 + 1))) (by rw [hN, if_neg hz, expo, hK, if_pos ⟨he.1, he.2, hm⟩]) oM]
     rfl
    ·rw [numF_of (n := deci s) (by rw [hN, if_neg hz, expo, hK, if_neg (fun q => hm q.2.2)]) oM]
     rfl
   ·have hK : expK s (deci s) = deci s + 1 := by rw [expK, if_neg hk]
    have hc := countW_le isDigit (s.drop (deci s + 1))
    rw [List.length_drop] at hc
    refine callF_exact (digits_spec hS _ _ (by rw [List.length_drop]; omega)) ?_
    refine ws1 (cj @Tryz.f97.eq_1 <| cj h0 <| cj h2 h4) ?_
    refine ⟨fun hm => ⟨by omega, ((Ext.refl h).push _).put (Nat.le_refl _) _, ?_⟩, fun hm => ⟨by omega, ((Ext.refl h).push _).put (Nat.le_refl _) _, ?_⟩⟩
    ·rw [numF_of (n := deci s + 1 + countW isDigit (s.drop (deci s + 1))) (by rw [hN, if_neg hz, expo, hK, if_pos ⟨he.1, he.2, hm⟩]) oM]
     rfl
    ·rw [numF_of (n := deci s) (by rw [hN, if_neg hz, expo, hK, if_neg (fun q => hm q.2.2)]) oM]
     rfl
   ·rw [numF_of (n := deci s) (by rw [hN, if_neg hz, expo, if_neg (fun q => he ⟨q.1, q.2.1⟩)]) oM]
    rfl
end
noncomputable section
theorem dec_pos (s : List Nat) : 1 ≤ (dec s).2 ∧ (dec s).2 ≤ 4 := by
 unfold dec
 simp only [cond_eq_ite]
 repeat' split
 all_goals simp
theorem dec_le (s : List Nat) (h : s ≠ []) : (dec s).2 ≤ s.length := by
 have hl : 0 < s.length := List.length_pos_iff.2 h
 unfold dec
 simp only [cond_eq_ite, Bool.and_eq_true, Nat.blt_eq]
 repeat' split
 all_goals simp only
 all_goals omega
variable {S : Set0} (hS : Std S)
def letterR (r : Nat) : Prop := 128 ≤ r ∨ (97 ≤ r ∧ r ≤ 122) ∨ (65 ≤ r ∧ r ≤ 90) ∨ r = 95 ∨ r = 36
instance (r : Nat) : Decidable (letterR r) := inferInstanceAs (Decidable (_ ∨ _))
def badR (s : List Nat) : Prop := (dec s).1 = 65533 ∧ (dec s).2 = 1
instance (s : List Nat) : Decidable (badR s) := inferInstanceAs (Decidable (_ ∧ _))
def runF (s : List Nat) : Nat × Bool :=
 if h : s = [] then (0, false)
 else if badR s then (0, false)
 else if letterR (dec s).1 then ((dec s).2 + (runF (s.drop (dec s).2)).1, true)
 else if isDigit (dec s).1 then ((dec s).2 + (runF (s.drop (dec s).2)).1, (runF (s.drop (dec s).2)).2)
 else (0, false)
termination_by s.length
decreasing_by
 all_goals
  have := dec_pos s
  have : 0 < s.length := List.length_pos_iff.2 h
  simp
  omega
theorem or32_letter : ∀ r : Fin 128, (97 ≤ iOr .i32 (r.val : Nat) 32 ∧ iOr .i32 (r.val : Nat) 32 ≤ 122) ↔ ((97 ≤ r.val ∧ r.val ≤ 122) ∨ (65 ≤ r.val ∧ r.val ≤ 90)) := by decide +kernel
theorem runF_nil : runF [] = (0, false) := by rw [runF]; simp
theorem runF_bad {t : List Nat} (h0 : t ≠ []) (h1 : badR t) : runF t = (0, false) := by rw [runF]; simp [h0, h1]
theorem runF_letter {t : List Nat} (h0 : t ≠ []) (h1 : ¬ badR t) (h2 : letterR (dec t).1) : runF t = ((dec t).2 + (runF (t.drop (dec t).2)).1, true) := by rw [runF]; simp [h0, h1, h2]
theorem runF_digit {t : List Nat} (h0 : t ≠ []) (h1 : ¬ badR t) (h2 : ¬ letterR (dec t).1) (h3 : isDigit (dec t).1) : runF t = ((dec t).2 + (runF (t.drop (dec t).2)).1, (runF (t.drop (dec t).2)).2) := by rw [runF]; simp [h0, h1, h2, h3]
theorem runF_stop {t : List Nat} (h0 : t ≠ []) (h1 : ¬ badR t) (h2 : ¬ letterR (dec t).1) (h3 : ¬ isDigit (dec t).1) : runF t = (0, false) := by rw [runF]; simp [h0, h1, h2, h3]
theorem letter_code (r : Nat) : (((128 ≤ r ∨ 97 ≤ iOr .i32 r 32 ∧ iOr .i32 r 32 ≤ 122) ∨ r = 95) ∨ r = 36) ↔ letterR r := by
 unfold letterR
 by_cases hr : 128 ≤ r
 ·simp [hr]
 ·have := or32_letter ⟨r, by omega⟩
  simp only at this
  rw [this]
  omega
include hS
theorem run_spec (s : List Nat) (h : H) (hs : s.length < 2 ^ 61) (hb : Bytes s) : Pure S.cfg 102 [.str s] h fun v _ => v = .tuple [.int .i64 (runF s).1, bo ((runF s).2 = true)] := by
 refine inn Tryz.func102 (hS.own _ dC) rfl rfl ?_
 refine ws1 @Tryz.f102.eq_1 ?_
 refine run_loop (fun m env h' => ∃ (i : Nat) (L : Prop), m = s.length - i ∧ env 9 = .ptr h.nx 0 ∧ env 0 = .str s ∧ env 3 = bo L ∧ i ≤ s.length ∧ Ext h h' ∧ h.nx < h'.nx ∧ h'.get h.nx = some (.siter s i) ∧ (runF s).1 = i + (runF (s.drop i)).1 ∧ ((runF s).2 = true ↔ (L ∨ (runF (s.drop i)).2 = true))) (s.length) ⟨0, False, by refine ws0 ?_; exact ⟨by omega, (Ext.refl h).push _, by omega⟩⟩ ?_
 rintro m env h' ⟨i, L, rfl, h9, h0, h3, hi, hx, hn, hg, r1, r2⟩
 refine ws1 (cj h9 <| cj h0 <| cj h3 <| cj hg @Tryz.f102.eq_1) ?_
 refine ⟨fun hlt => ⟨?_, ?_⟩, fun hlt => ?_⟩
 ·omega
 ·refine callF_exact (decode_spec hS _ _) ?_
  have hne : s.drop i ≠ [] := fun e => by have := congrArg List.length e; simp at this; omega
  have hd : decG (s.drop i) = dec (s.drop i) := by
   unfold decG
   rw [if_neg hne]
  have hp := dec_pos (s.drop i)
  have hw := dec_le (s.drop i) hne
  rw [List.length_drop] at hw
  have hdd : (s.drop i).drop (dec (s.drop i)).2 = s.drop (i + (dec (s.drop i)).2) := List.drop_drop
  refine ws1 (cj h9 <| cj h0 <| cj h3 <| cj @Tryz.f102.eq_1 <| cj hd letter_code) ?_
  refine ⟨fun hb1 => ⟨hx.put (Nat.le_refl _) _, ?_⟩, fun hb1 => ⟨fun hl1 => ?_, fun hl1 => ⟨fun hd1 => ⟨hx.put (Nat.le_refl _) _, ?_⟩, fun hd1 => ?_⟩⟩⟩
  ·have e := runF_bad hne hb1
   rw [show (runF s).1 = i by rw [r1, e]; rfl, show bo ((runF s).2 = true) = bo L from bo_eq (by rw [r2, e]; simp)]
  ·have e := runF_letter hne hb1 hl1
   rw [hdd] at e
   refine ⟨_, by omega, i + (dec (s.drop i)).2, True, rfl, rfl, by omega, hx.put (Nat.le_refl _) _, hn, rfl, by rw [r1, e]; simp only; omega, by rw [r2, e]; simp⟩
  ·have e := runF_stop hne hb1 hl1 (fun q => by unfold isDigit at q; omega)
   rw [show (runF s).1 = i by rw [r1, e]; rfl, show bo ((runF s).2 = true) = bo L from bo_eq (by rw [r2, e]; simp)]
  ·have e := runF_digit hne hb1 hl1 (by unfold isDigit; omega)
   rw [hdd] at e
   refine ⟨_, by omega, i + (dec (s.drop i)).2, L, rfl, rfl, by omega, hx.put (Nat.le_refl _) _, hn, rfl, by rw [r1, e]; simp only; omega, by rw [r2, e]⟩
 ·have e : s.drop i = [] := List.drop_eq_nil_of_le oM
  rw [e, runF_nil] at r1 r2
  refine ⟨hx, ?_⟩
  rw [show (runF s).1 = s.length by rw [r1]; simp only; omega, show bo ((runF s).2 = true) = bo L from bo_eq (by rw [r2]; simp)]
end
noncomputable section
variable {S : Set0} (hS : Std S)
def lowB (b : Nat) : Nat := if 65 ≤ b ∧ b ≤ 90 then b + 32 else b
def lowS (s : List Nat) : List Nat := s.map lowB
theorem lowS_bytes {s : List Nat} (h : Bytes s) : Bytes (lowS s) := by
 intro b hb
 obtain ⟨x, hx, rfl⟩ := List.mem_map.1 hb
 have := h x hx
 unfold lowB
 split <;> omega
def partS (s : List Nat) (i : Nat) : List Nat := lowS (s.take i) ++ s.drop i
theorem partS_len (s : List Nat) (i : Nat) (hi : i ≤ s.length) : (partS s i).length = s.length := by simp [partS, lowS]; omega
theorem listPut_one {α : Type} : ∀ (l : List α) (i : Nat) (v : α), listPut l i [v] = l.set i v
 | [], _, _ => rfl
 | x :: l, 0, v => by simp [listPut]
 | x :: l, i + 1, v => by simp [listPut, listPut_one l i v]
theorem partS_set : ∀ (s : List Nat) (i : Nat), i < s.length → (partS s i).set i (lowB (s.getD i 0)) = partS s (i + 1)
 | [], i, h => by simp at h
 | x :: l, 0, h => by simp [partS, lowS]
 | x :: l, i + 1, h => by
   have := partS_set l i (by simpa using h)
   simp only [partS, lowS, List.take_succ_cons, List.map_cons, List.drop_succ_cons, List.cons_append, List.set_cons_succ, List.getD_cons_succ] at this ⊢
   rw [this]
theorem partS_put (s : List Nat) (i : Nat) (hi : i < s.length) : listPut (bytesV (partS s i)) i [.int .u8 ((lowB (s.getD i 0) : Nat) : Int)] = bytesV (partS s (i + 1)) := by
 rw [listPut_one, ← partS_set s i hi]
 unfold bytesV
 rw [List.map_set]
theorem partS_same (s : List Nat) (i : Nat) (hi : i < s.length) (hn : ¬ (65 ≤ s.getD i 0 ∧ s.getD i 0 ≤ 90)) : partS s (i + 1) = partS s i := by
 rw [← partS_set s i hi]
 have hel : (partS s i)[i]? = some (s.getD i 0) := by
  unfold partS
  rw [List.getElem?_append_right (by simp [lowS]; omega)]
  simp [lowS, Nat.min_eq_left (Nat.le_of_lt hi), List.getD_eq_getElem?_getD, List.getElem?_eq_getElem hi]
 rw [show lowB (s.getD i 0) = s.getD i 0 by unfold lowB; rw [if_neg hn]]
 apply List.ext_getElem?
 intro j
 rw [List.getElem?_set]
 split
 ·rename_i e; subst e
  split
  ·rw [hel]
  ·rename_i hh
   rw [partS_len s i oM] at hh
   omega
 ·rfl
include hS
theorem small_spec (s : List Nat) (h : H) (hs : s.length < 2 ^ 61) (hb : Bytes s) : Pure S.cfg 103 [.str s] h fun v _ => v = .str (lowS s) := by
 refine inn Tryz.func103 (hS.own _ dC) rfl rfl ?_
 refine ws1 @Tryz.f103.eq_1 ?_
 refine run_loop (fun m env h' => ∃ i : Nat, m = s.length - i ∧ env 3 = .slice h.nx 0 s.length s.length ∧ env 8 = .slice h.nx 0 s.length s.length ∧ env 9 = .int .i64 s.length ∧ env 10 = .int .i64 i ∧ i ≤ s.length ∧ Ext h h' ∧ h.nx < h'.nx ∧ h'.get h.nx = some (.cells (bytesV (partS s i)) 5 true)) s.length ⟨0, by refine ws0 ?_; exact ⟨rfl, (Ext.refl h).push _, by omega, by simp [partS, lowS]⟩⟩ ?_
 rintro m env h' ⟨i, rfl, h3, h8, h9, h10, hi, hx, hn, hg⟩
 by_cases hlt : i < s.length
 ·have hel : (partS s i)[i]? = some (s.getD i 0) := by
   unfold partS
   rw [List.getElem?_append_right (by simp [lowS]; omega)]
   simp [lowS, Nat.min_eq_left hi, List.getD_eq_getElem?_getD, List.getElem?_eq_getElem hlt]
  refine ws1 (cj h3 <| cj h8 <| cj h9 <| cj h10 <| cj hg <| cj hel <| cj hlt @Tryz.f103.eq_1) ?_
  refine ⟨fun hr => ⟨by rw [partS_len s i hi]; omega, _, by omega, i + 1, rfl, rfl, by omega, hx.put (Nat.le_refl _) _, hn, ?_⟩, fun hr => ⟨_, by omega, i + 1, rfl, rfl, by omega, hx, hn, by rw [partS_same s i hlt hr]⟩⟩
  have hw : IntKind.u8.wrap (IntKind.u8.wrap ((s.getD i 0 : Nat) + 97) - 65) = ((lowB (s.getD i 0) : Nat) : Int) := by
   rw [u8_in ((s.getD i 0 : Nat) + 97) oM, u8_in _ oM]
   unfold lowB
   rw [if_pos hr]
   omega
  rw [hw, partS_put s i hlt]
 ·have e : i = s.length := oM
  subst e
  have hp : partS s s.length = lowS s := by simp [partS]
  rw [hp] at hg
  have hr : rdN (some (.cells (bytesV (lowS s)) 5 true)) 0 s.length = some (lowS s) := by
   have := rdN_bytes (e := 5) (p := true) (lowS_bytes hb)
   rwa [show (lowS s).length = s.length by simp [lowS]] at this
  refine ws1 (cj h3 <| cj h8 <| cj h9 <| cj h10 <| cj hg <| cj hlt <| cj hr @Tryz.f103.eq_1) ?_
  exact hx
omit hS
def findB (b : Nat) : List Nat → Option Nat
 | [] => none
 | x :: l => if x = b then some 0 else (findB b l).map (· + 1)
theorem idx_find (b : Nat) : ∀ s : List Nat, idxNats s b = (match findB b s with
  | some i => (i : Int)
  | none => -1)
 | [] => rfl
 | x :: l => by
   unfold idxNats findB
   rw [idx_find b l]
   by_cases hx : x = b
   ·simp [hx]
   ·have : (x == b) = false := by simpa using hx
    rw [this, if_neg hx]
    cases findB b l with
    | none => simp
    | some i =>
      have : ((i : Int) == -1) = false := by simp
      simp [this]
theorem findB_lt {b i : Nat} : ∀ {s : List Nat}, findB b s = some i → i < s.length ∧ s.getD i 0 = b
 | [], h => by cases h
 | x :: l, h => by
   unfold findB at h
   by_cases hx : x = b
   ·rw [if_pos hx] at h; cases h; simp [hx]
   ·rw [if_neg hx] at h
    cases hf : findB b l with
    | none => rw [hf] at h; cases h
    | some j =>
      rw [hf] at h; cases h
      have := findB_lt hf
      simpa using this
def findS (p : List Nat) : List Nat → Option Nat
 | [] => if p = [] then some 0 else none
 | x :: l => if isPre p (x :: l) = true then some 0 else (findS p l).map (· + 1)
theorem index_find (p : List Nat) : ∀ (s : List Nat) (k : Nat), indexN p s k = (match findS p s with
  | some i => ((k + i : Nat) : Int)
  | none => -1)
 | [], k => by
   unfold indexN findS
   cases p <;> simp
 | x :: l, k => by
   unfold indexN findS
   by_cases hx : isPre p (x :: l) = true
   ·simp [hx]
   ·rw [if_neg hx, Bool.eq_false_iff.2 hx, cond_false, index_find p l (k + 1)]
    cases findS p l with
    | none => rfl
    | some i =>
      show ((k + 1 + i : Nat) : Int) = ((k + (i + 1) : Nat) : Int)
      congr 1
      omega
theorem isPre_len : ∀ {p s : List Nat}, isPre p s = true → p.length ≤ s.length
 | [], _, _ => by simp
 | _ :: _, [], h => by cases h
 | a :: p, b :: s, h => by
   simp only [isPre, Bool.and_eq_true] at h
   have := isPre_len h.2
   simpa using this
theorem findS_le {p : List Nat} {i : Nat} : ∀ {s : List Nat}, findS p s = some i → i + p.length ≤ s.length
 | [], h => by
   unfold findS at h
   split at h
   ·rename_i e; cases h; simp [e]
   ·cases h
 | x :: l, h => by
   unfold findS at h
   by_cases hx : isPre p (x :: l) = true
   ·rw [if_pos hx] at h; cases h
    have := isPre_len hx
    simpa using this
   ·rw [if_neg hx] at h
    cases hf : findS p l with
    | none => rw [hf] at h; cases h
    | some j =>
      rw [hf] at h; cases h
      have := findS_le hf
      simp only [List.length_cons]
      omega
def hasP (s p : List Nat) : Prop := p.length ≤ s.length ∧ s.take p.length = p
instance (s p : List Nat) : Decidable (hasP s p) := inferInstanceAs (Decidable (_ ∧ _))
def lineP (s : List Nat) : Prop := s.getD 0 0 = 35 ∨ (hasP s [45, 45] ∧ 2 < s.length ∧ isBlank (s.getD 2 0))
instance (s : List Nat) : Decidable (lineP s) := inferInstanceAs (Decidable (_ ∨ _))
def oddP (s : List Nat) : Prop := 2 < s.length ∧ (s.getD 2 0 = 33 ∨ s.getD 2 0 = 43)
instance (s : List Nat) : Decidable (oddP s) := inferInstanceAs (Decidable (_ ∧ _))
def passF (s : List Nat) : Nat × Nat :=
 if isBlank (s.getD 0 0) then (1, 0)
 else if lineP s then (match findB 10 s with
  | some i => (i + 1, 0)
  | none => (s.length, 0))
 else if ¬ hasP s [47, 42] ∨ oddP s then (0, 0)
 else match findS [42, 47] (s.drop 2) with
  | some i => (i + 4, 0)
  | none => (0, 190)
include hS
theorem passed_spec (s : List Nat) (h : H) (hs : s.length < 2 ^ 31) (hb : Bytes s) (h0 : s ≠ []) : Exact S.cfg 52 [.str s] h (.tuple [.int .i64 (passF s).1, .int .i64 (passF s).2]) := by
 refine inn Tryz.func52 (hS.own _ dC) rfl rfl ?_
 have hl : 0 < s.length := List.length_pos_iff.2 h0
 refine ws1 @Tryz.f52.eq_1 ?_
 refine ⟨hl, callF_exact (blank_spec hS _ (hb.getD 0) _) ?_⟩
 refine ws1 @Tryz.f52.eq_1 ?_
 refine ⟨fun hbl => by rw [passF, if_pos hbl]; rfl, fun hbl => ⟨hl, gCall_exact (first := []) (cap := []) (fun _ => hasPrefix_spec hS _ _ _) (fun fp => ?_)⟩⟩
 refine ws1 @Tryz.f52.eq_1 ?_
 refine gCall_exact (first := []) (cap := []) (fun _ => blank_spec hS _ (hb.getD 2) _) (fun fp => ?_)
 refine ws1 @Tryz.f52.eq_1 ?_
 refine ⟨fun hli => callF_exact (indexByte_spec hS _ 10 oM _) ?_, fun hli => callF_exact (hasPrefix_spec hS _ _ _) ?_⟩
 ·have hli' : lineP s := hli.imp id fun q => ⟨q.1.1, q.1.2, q.2⟩
  rw [idx_find]
  cases hf : findB 10 s with
  | none =>
    refine ws1 @Tryz.f52.eq_1 ?_
    rw [passF, if_neg hbl, if_pos hli', hf]
    simp
  | some i =>
    have := (findB_lt hf).1
    refine ws1 @Tryz.f52.eq_1 ?_
    rw [passF, if_neg hbl, if_pos hli', hf]
    rfl
 ·have hli' : ¬ lineP s := fun q => hli (q.imp id fun q => ⟨⟨q.1, q.2.1⟩, q.2.2⟩)
  refine ws1 @Tryz.f52.eq_1 ?_
  refine ⟨fun hq => ?_, fun hq => ?_⟩
  ·rw [passF, if_neg hbl, if_neg hli', if_pos (show ¬ hasP s [47, 42] ∨ oddP s from hq)]
   simp
  ·have h2 : 2 ≤ s.length := by
    by_cases hh : 2 ≤ s.length
    ·exact hh
    ·exact (hq (.inl fun q => hh q.1)).elim
   refine ⟨h2, callF_exact (index_spec hS _ _ (by rw [List.length_drop]; omega) _) ?_⟩
   rw [index_find]
   have e : passF s = (match findS [42, 47] (s.drop 2) with
    | some i => (i + 4, 0)
    | none => (0, 190)) := by rw [passF, if_neg hbl, if_neg hli', if_neg (show ¬ (¬ hasP s [47, 42] ∨ oddP s) from hq)]
   cases hf : findS [42, 47] (s.drop 2) with
   | none =>
     rw [hf] at e
     refine ws1 (cj @Tryz.f52.eq_1 e) ?_
     rfl
   | some i =>
     have := findS_le hf
     rw [List.length_drop] at this
     rw [hf] at e
     simp only [List.length_cons, List.length_nil] at this
     refine ws1 (cj @Tryz.f52.eq_1 e) ?_
     exact ⟨fun q => by omega, fun _ => rfl⟩
end
noncomputable section
variable {S : Set0} (hS : Std S)
def BldIs (h : H) (p : Nat) (bs : List Nat) : Prop := ∃ a buf, h.get p = some (.cells [a, buf] 174 false) ∧ p < h.nx ∧ (a = .nilptr ∨ a = .ptr p 0) ∧ Acc (p + 1) h buf (bytesV bs) 5 1
def Ahead (p : Nat) (h h' : H) : Prop := h.nx ≤ h'.nx ∧ ∀ k, k < p → h'.get k = h.get k
theorem Ahead.put {p : Nat} {h h' : H} (a : Ahead p h h') {k : Nat} (hk : p ≤ k) (ob : Ob) : Ahead p h (h'.put k ob) := ⟨a.1, fun j hj => by rw [put_get, if_neg oM, a.2 j hj]⟩
theorem Ahead.trans {p : Nat} {a b c : H} (x : Ahead p a b) (y : Ahead p b c) : Ahead p a c := ⟨Nat.le_trans x.1 y.1, fun k hk => by rw [y.2 k hk, x.2 k hk]⟩
theorem Ahead.refl (p : Nat) (h : H) : Ahead p h h := ⟨Nat.le_refl _, fun _ _ => rfl⟩
theorem bytesV_append (a b : List Nat) : bytesV (a ++ b) = bytesV a ++ bytesV b := by simp [bytesV]
include hS
theorem copyCheck_spec (p : Nat) (bs : List Nat) (h : H) (hB : BldIs h p bs) : callW S.cfg (fun k => p ≤ k) 142 [.ptr p 0] h fun v h' => v = .tuple [] ∧ Ahead p h h' ∧ ∃ buf, h'.get p = some (.cells [.ptr p 0, buf] 174 false) ∧ p < h'.nx ∧ Acc (p + 1) h' buf (bytesV bs) 5 1 := by
 obtain ⟨a, buf, hg, hp, ha, hA⟩ := hB
 refine inn Tryz.func142 (hS.own _ dC) rfl rfl ?_
 rcases ha with rfl | rfl
 ·simp +contextual (disch := first | (simp only [fq]; done) | omega) only [wps, fW, reduceLE, reduceLT, reduceLeDiff, UInt8.reduceToNat, ↓reduceIte, reduceEqDiff, reduceAdd, reduceCtorEq, reduceToNat, Tryz.f142, hg, opW_convert, convertM, goL_blk, goL_cond, goL_ret, goL_err, hasSize]
  refine ⟨_, _, _, rfl, fun _ => ?_, fun q => (Bool.false_ne_true (q.symm.trans kR)).elim⟩
  refine callF_exact (sum_exact hS.same (v := .ptr p 0) rfl) ?_
  simp +contextual (disch := first | (simp only [fq]; done) | omega) only [wps, fW, reduceLE, reduceLT, reduceLeDiff, UInt8.reduceToNat, ↓reduceIte, reduceEqDiff, reduceAdd, reduceCtorEq, reduceToNat, Tryz.f142, hg, opW_convert, convertM, goL_blk, goL_cond, goL_ret, goL_err, hasSize]
  exact ⟨_, _, _, rfl, fun _ => ⟨(Ahead.refl p h).put (Nat.le_refl _) _, buf, rfl, hp, hA.put oM⟩, fun q => (Bool.false_ne_true (q.symm.trans kR)).elim⟩
 ·refine ws1 (cj @Tryz.f142.eq_1 hg) ?_
  exact ⟨Ahead.refl p h, buf, rfl, hp, hA⟩
theorem writeByte_spec (p : Nat) (bs : List Nat) (b : Nat) (h : H) (hB : BldIs h p bs) (hb : b < 256) (hl : bs.length < 2 ^ 29) : callW S.cfg (fun k => p ≤ k) 100 [.ptr p 0, .int .u8 b] h fun v h' => Ahead p h h' ∧ BldIs h' p (bs ++ [b]) := by
 refine inn Tryz.func100 (hS.own _ dC) rfl rfl ?_
 refine ws1 @Tryz.f100.eq_1 ?_
 refine callF_of (copyCheck_spec hS p bs h hB) (fun k hk => .inr hk) ?_
 rintro v h1 ⟨rfl, hA1, buf, hg, hp, hA⟩
 refine ws1 (cj @Tryz.f100.eq_1 hg) ?_
 refine append_acc (n := 1) (new := [.int .u8 b]) (cells := bytesV bs) (c := S.cfg) ap48 ⟨_, Tryz.underlying48, rfl⟩ (s := .tmp 11) (x := .tmp 13) (n0 := p + 1) (by refine ws0 ?_; exact hA.push) (by refine ws0 ?_; rfl) oM (by refine ws0 ?_; exact rdC_all rfl) rfl rfl (by simp [bytesV_length]; omega) oM (fun k hk => .inr oM) ?_ (by show p + 1 ≤ h1.nx + 1; omega)
 intro v h' fp hA' hs'
 have hs2 : StaysBut buf (h1.push (.cells [.int .u8 b] 5 false)) h' := by
  have := hs'
  simp only [evalE_tmp, upd_app] at this
  exact this
 have hg' : h'.get p = some (.cells [.ptr p 0, buf] 174 false) := by
  rw [hs2.2 p (by show p < h1.nx + 1; omega) (fun o n m => hA.ne oM), push_get_lt hp]
  exact hg
 obtain ⟨hc1, hc2⟩ := hA'.cell
 refine ws1 (cj @Tryz.f100.eq_1 <| cj hg' <| cj hc1 hc2) ?_
 have hA2 : Ahead p h h' := ⟨Nat.le_trans hA1.1 (Nat.le_trans (Nat.le_succ _) hs2.1), fun k hk => by
  rw [hs2.2 k (by show k < h1.nx + 1; omega) (fun o n m => hA.ne oM), push_get_lt oM, hA1.2 k hk]⟩
 refine ⟨hA2.put (Nat.le_refl _) _, .ptr p 0, v, by rw [put_get, if_pos rfl], by show p < h'.nx; have := hs2.1; rw [push_nx] at this; omega, .inr rfl, ?_⟩
 rw [bytesV_append]
 exact hA'.put oM
theorem string_spec (p : Nat) (bs : List Nat) (h : H) (hB : BldIs h p bs) (hb : Bytes bs) (hbl : bs.length < 2 ^ 40) : callW S.cfg (fun k => p ≤ k) 99 [.ptr p 0] h fun v h' => v = .str bs ∧ Ahead p h h' := by
 obtain ⟨a, buf, hg, hp, ha, hA⟩ := hB
 refine inn Tryz.func99 (hS.own _ dC) rfl rfl ?_
 refine ws1 (cj @Tryz.f99.eq_1 hg) ?_
 refine draw_by [(4, 8)] kR ?_
 rcases hA with ⟨rfl, hbs⟩ | ⟨b, n, h0, h1, rfl, hn, hg2, hl⟩
 ·have : bs = [] := by simpa [bytesV] using hbs
  subst this
  simp +contextual (disch := first | (simp only [fq]; done) | omega) only [wps, fW, reduceLE, reduceLT, reduceLeDiff, UInt8.reduceToNat, ↓reduceIte, reduceEqDiff, reduceAdd, reduceCtorEq, reduceToNat, Tryz.f99, hg, goL_ret, unsafeStringM]
  rw [show Nat.beq 0 0 = true from rfl, cond_true, goL_ret]
  refine ws1 (cj @Tryz.f99.eq_1 hg) ?_
  exact ⟨fun q hq => by
   obtain rfl : q = (4, 8) := by simpa using hq
   exact pair_one rfl rfl apart_nil_l, Ahead.refl p h⟩
 ·obtain ⟨k, rfl⟩ : ∃ k, n = k + 1 := ⟨n - 1, by omega⟩
  have hlb : bs.length = k + 1 := by simpa [bytesV] using hl
  simp +contextual (disch := first | (simp only [fq]; done) | omega) only [wps, fW, reduceLE, reduceLT, reduceLeDiff, UInt8.reduceToNat, ↓reduceIte, reduceEqDiff, reduceAdd, reduceCtorEq, reduceToNat, Tryz.f99, hg, hg2, goL_ret, unsafeStringM, goL_blk, goL_cond, goL_ld, goL_kill]
  refine ⟨fun q => (Nat.noConfusion (Nat.eq_of_beq_eq_true q)), fun _ => ⟨_, _, _, rfl, fun _ => ⟨bytesV bs, rdC_all (by simpa using hl), ?_⟩, fun q => ?_⟩⟩
  ·rw [natsV_bytes hb]
   simp only
   rw [goL_kill]
   refine ⟨_, _, _, hg2, ?_⟩
   rw [goL_ret]
   refine ws1 (cj @Tryz.f99.eq_1 hg) ?_
   refine ⟨.inr (.inr oM), fun q hq => by
    obtain rfl : q = (4, 8) := by simpa using hq
    exact pair_one rfl rfl apart_nil_l, ?_⟩
   exact ⟨Nat.le_refl _, fun j hj => by rw [del_get, if_neg oM]⟩
  ·simp only [Bool.and_eq_false_iff] at q
   rcases q with ((q | q) | q) | q
   ·rw [show Nat.ble (k + 1) 9223372036854775807 = true from ble_iff.2 oM] at q
    cases q
   ·exact (Bool.false_ne_true (q.symm.trans kR)).elim
   ·exact (Bool.false_ne_true (q.symm.trans kR)).elim
   ·exact (Bool.false_ne_true (q.symm.trans kR)).elim
omit hS
theorem esc_tab : ∀ b : Fin 256, idxNats [48, 110, 116, 114, 98, 90] b.val = (if b.val = 48 then 0 else if b.val = 110 then 1 else if b.val = 116 then 2 else if b.val = 114 then 3 else if b.val = 98 then 4 else if b.val = 90 then 5 else -1) := by decide +kernel
def escB (b : Nat) : List Nat := if b = 48 then [0] else if b = 110 then [10] else if b = 116 then [9] else if b = 114 then [13] else if b = 98 then [8] else if b = 90 then [26] else if b = 37 ∨ b = 95 then [92, b] else [b]
include hS
theorem escaped_spec (p : Nat) (bs : List Nat) (b : Nat) (h : H) (hB : BldIs h p bs) (hb : b < 256) (hl : bs.length < 2 ^ 28) : callW S.cfg (fun k => p ≤ k) 101 [.ptr p 0, .int .u8 b] h fun v h' => Ahead p h h' ∧ BldIs h' p (bs ++ escB b) := by
 refine inn Tryz.func101 (hS.own _ dC) rfl rfl ?_
 refine ws1 @Tryz.f101.eq_1 ?_
 refine callF_exact (indexByte_spec hS _ _ hb _) ?_
 have he := esc_tab ⟨b, hb⟩
 simp only at he
 have w1 : ∀ x : Nat, x < 256 → callW S.cfg (fun k => p ≤ k) 100 [.ptr p 0, .int .u8 x] h fun v h' => Ahead p h h' ∧ BldIs h' p (bs ++ [x]) := fun x hx => writeByte_spec hS p bs x h hB hx oM
 by_cases c1 : b = 48 ∨ b = 110 ∨ b = 116 ∨ b = 114 ∨ b = 98 ∨ b = 90
 ·obtain ⟨i, x, hi, hi6, hx, hxl, hx256⟩ : ∃ (i x : Nat), idxNats [48, 110, 116, 114, 98, 90] b = (i : Int) ∧ i < 6 ∧ [0, 10, 9, 13, 8, 26].getD i 0 = x ∧ escB b = [x] ∧ x < 256 := by
   rcases c1 with rfl | rfl | rfl | rfl | rfl | rfl
   ·exact ⟨0, 0, rfl, by omega, rfl, rfl, by omega⟩
   ·exact ⟨1, 10, rfl, by omega, rfl, rfl, by omega⟩
   ·exact ⟨2, 9, rfl, by omega, rfl, rfl, by omega⟩
   ·exact ⟨3, 13, rfl, by omega, rfl, rfl, by omega⟩
   ·exact ⟨4, 8, rfl, by omega, rfl, rfl, by omega⟩
   ·exact ⟨5, 26, rfl, by omega, rfl, rfl, by omega⟩
  rw [hi]
  refine ws1 (cj @Tryz.f101.eq_1 hx) ?_
  refine ⟨hi6, callF_of (w1 x hx256) (fun k hk => .inr hk) fun v h' ⟨a1, a2⟩ => ?_⟩
  rw [hxl]
  refine ws1 @Tryz.f101.eq_1 ?_
  exact ⟨a1, a2⟩
 ·have hi : idxNats [48, 110, 116, 114, 98, 90] b = -1 := by
   rw [he]
   simp only [not_or] at c1
   simp [c1]
  rw [hi]
  refine ws1 @Tryz.f101.eq_1 ?_
  simp only [not_or] at c1
  refine ⟨fun hq => callF_of (w1 92 oM) (fun k hk => .inr hk) fun v h1 ⟨a1, a2⟩ => ?_, fun hq => callF_of (w1 b hb) (fun k hk => .inr hk) fun v h1 ⟨a1, a2⟩ => ?_⟩
  ·refine ws1 @Tryz.f101.eq_1 ?_
   refine callF_of (writeByte_spec hS p (bs ++ [92]) b h1 a2 hb (by simp; omega)) (fun k hk => .inr hk) fun v h2 ⟨b1, b2⟩ => ?_
   refine ws1 @Tryz.f101.eq_1 ?_
   refine ⟨a1.trans b1, ?_⟩
   rw [show escB b = [92, b] by simp [escB, c1, hq]]
   simpa using b2
  ·refine ws1 @Tryz.f101.eq_1 ?_
   rw [show escB b = [b] by simp [escB, c1, hq]]
   exact ⟨a1, a2⟩
end
noncomputable section
variable {S : Set0} (hS : Std S)
def qF : List Nat → Option (List Nat × Nat)
 | [] => none
 | x :: l => if x = 96 then (match l with
    | [] => some ([], 1)
    | y :: l' => if y = 96 then (qF l').map fun r => (96 :: r.1, r.2 + 2) else some ([], 1))
   else (qF l).map fun r => (x :: r.1, r.2 + 1)
def quotF (s : List Nat) : V := if s.getD 0 0 = 96 then (match qF (s.drop 1) with
  | some r => foundV 2 r.1 (r.2 + 1) 0
  | none => foundV 0 [] 0 190) else foundV 0 [] 0 0
theorem drop_cons {s : List Nat} {i : Nat} (hi : i < s.length) : s.drop i = s.getD i 0 :: s.drop (i + 1) := by
 rw [List.drop_eq_getElem_cons hi, List.getD_eq_getElem?_getD, List.getElem?_eq_getElem hi]
 rfl
theorem qF_end {s : List Nat} {i : Nat} (hi : i < s.length) (h1 : s.getD i 0 = 96) (h2 : i + 1 = s.length ∨ s.getD (i + 1) 0 ≠ 96) : qF (s.drop i) = some ([], 1) := by
 rw [drop_cons hi, h1]
 unfold qF
 rw [if_pos rfl]
 by_cases hl : i + 1 < s.length
 ·rw [drop_cons hl]
  simp only
  rw [if_neg (by rcases h2 with h2 | h2; omega; exact h2)]
 ·rw [List.drop_eq_nil_of_le oM]
theorem qF_two {s : List Nat} {i : Nat} (hi : i + 1 < s.length) (h1 : s.getD i 0 = 96) (h2 : s.getD (i + 1) 0 = 96) : qF (s.drop i) = (qF (s.drop (i + 2))).map fun r => (96 :: r.1, r.2 + 2) := by
 rw [drop_cons oM, h1, drop_cons hi, h2]
 rw [qF.eq_def]
 simp only [if_pos]
theorem qF_one {s : List Nat} {i : Nat} (hi : i < s.length) (h1 : s.getD i 0 ≠ 96) : qF (s.drop i) = (qF (s.drop (i + 1))).map fun r => (s.getD i 0 :: r.1, r.2 + 1) := by
 rw [drop_cons hi, qF.eq_def]
 simp only
 rw [if_neg h1]
theorem BldIs.stay {h h' : H} {p : Nat} {bs : List Nat} (hB : BldIs h p bs) (hn : h.nx ≤ h'.nx) (hs : ∀ k, p ≤ k → k < h.nx → h'.get k = h.get k) : BldIs h' p bs := by
 obtain ⟨a, buf, hg, hp, ha, hA⟩ := hB
 exact ⟨a, buf, by rw [hs p (Nat.le_refl _) hp]; exact hg, Nat.lt_of_lt_of_le hp hn, ha, hA.stay hn fun k h0 h1 => hs k oM h1⟩
theorem ext_ahead {a b c : H} {p : Nat} (x : Ext a b) (y : Ahead p b c) (hp : a.nx ≤ p) : Ext a c := ⟨Nat.le_trans x.1 y.1, fun k hk => by rw [y.2 k oM, x.2 k hk]⟩
include hS
theorem quoted_spec (s : List Nat) (h : H) (hs : s.length < 2 ^ 26) (hb : Bytes s) (h0 : s ≠ []) : Pure S.cfg 55 [.str s] h fun v _ => v = quotF s := by
 refine inn Tryz.func55 (hS.own _ dC) rfl rfl ?_
 have hl : 0 < s.length := List.length_pos_iff.2 h0
 refine ws1 @Tryz.f55.eq_1 ?_
 refine ⟨hl, fun hq => ?_, fun hq => ?_⟩
 ·refine ⟨((Ext.refl h).push _).put (Nat.le_refl _) _, ?_⟩
  rw [quotF, if_neg hq]
  rfl
 ·have hq : s.getD 0 0 = 96 := by simpa using hq
  have hqF : quotF s = (match qF (s.drop 1) with
   | some r => foundV 2 r.1 (r.2 + 1) 0
   | none => foundV 0 [] 0 190) := by rw [quotF, if_pos hq]
  have hx1 : ¬ h.nx = h.nx + 1 := oM
  refine run_loop (fun m env h' => ∃ (i : Nat) (bs : List Nat), m = s.length - i ∧ env 0 = .str s ∧ env 2 = .ptr h.nx 0 ∧ env 3 = .ptr (h.nx + 1) 0 ∧ env 4 = .int .i64 i ∧ 1 ≤ i ∧ i ≤ s.length ∧ Ext h h' ∧ h'.get h.nx = some (.cells [.int .i64 0, .str [], .int .i64 0, .int .i64 0, .int .i64 0] 124 false) ∧ BldIs h' (h.nx + 1) bs ∧ bs.length < i ∧ Bytes bs ∧
   qF (s.drop 1) = (qF (s.drop i)).map fun r => (bs ++ r.1, r.2 + (i - 1))) (s.length - 1) ⟨1, [], by refine ws1 hx1 ?_; exact ⟨by omega, ((Ext.refl h).push _).push _, ⟨.nilptr, .nilslice, by rw [push_get]; exact if_pos rfl, Nat.lt_succ_self _, .inl rfl, .inl ⟨rfl, rfl⟩⟩, by omega, fun b hb => by simp at hb, by simp⟩⟩ ?_
  rintro m env h' ⟨i, bs, rfl, e0, e2, e3, e4, hi1, hi, hx, hg, hB, hbl, hbb, hr⟩
  have hBn : h.nx + 1 < h'.nx := by obtain ⟨_, _, _, hp, _⟩ := hB; exact hp
  refine ws1 (cj e0 <| cj e2 <| cj e3 <| cj e4 @Tryz.f55.eq_1) ?_
  refine ⟨fun hlt => ⟨fun h96 => ⟨fun q => by omega, fun hend => ?_, fun hend => ?_⟩, fun h96 => ?_⟩, fun hge => ?_⟩
  ·refine callF_of (string_spec hS (h.nx + 1) bs h' hB hbb oM) (fun k hk => .inl oM) ?_
   rintro v h2 ⟨rfl, ha⟩
   have hg2 : h2.get h.nx = some (.cells [.int .i64 0, .str [], .int .i64 0, .int .i64 0, .int .i64 0] 124 false) := by rw [ha.2 h.nx oM]; exact hg
   refine ws1 (cj e0 <| cj e2 <| cj e3 <| cj e4 <| cj hg2 @Tryz.f55.eq_1) ?_
   refine ⟨(ext_ahead hx ha oM).put (Nat.le_refl _) _, ?_⟩
   rw [hqF, hr, qF_end hlt h96 hend]
   simp only [Option.map_some, List.append_nil, foundV]
   rw [show 1 + (i - 1) + 1 = i + 1 by omega]
   rfl
  ·have hn : i + 1 < s.length := oM
   have h97 : s.getD (i + 1) 0 = 96 := by
    by_cases q : s.getD (i + 1) 0 = 96
    ·exact q
    ·exact (hend (.inr q)).elim
   refine ⟨hn, callF_of (writeByte_spec hS (h.nx + 1) bs (s.getD (i + 1) 0) h' hB (hb.getD _) oM) (fun k hk => .inl oM) ?_⟩
   rintro v h2 ⟨ha, hB2⟩
   have hg2 : h2.get h.nx = some (.cells [.int .i64 0, .str [], .int .i64 0, .int .i64 0, .int .i64 0] 124 false) := by rw [ha.2 h.nx oM]; exact hg
   rw [h97] at hB2
   refine ws1 (cj e0 <| cj e2 <| cj e3 <| cj e4 <| cj hg2 @Tryz.f55.eq_1) ?_
   refine ⟨_, by omega, i + 2, bs ++ [96], rfl, by omega, by omega, by omega, ext_ahead hx ha oM, hB2, by simp; omega, fun b hb' => ?_, ?_⟩
   ·rcases List.mem_append.1 hb' with q | q
    ·exact hbb b q
    ·simp at q; subst q; omega
   ·rw [hr, qF_two hn h96 h97]
    cases qF (s.drop (i + 2)) with
    | none => rfl
    | some r => simp; omega
  ·refine callF_of (writeByte_spec hS (h.nx + 1) bs (s.getD i 0) h' hB (hb.getD i) oM) (fun k hk => .inl oM) ?_
   rintro v h2 ⟨ha, hB2⟩
   have hg2 : h2.get h.nx = some (.cells [.int .i64 0, .str [], .int .i64 0, .int .i64 0, .int .i64 0] 124 false) := by rw [ha.2 h.nx oM]; exact hg
   refine ws1 (cj e0 <| cj e2 <| cj e3 <| cj e4 <| cj hg2 @Tryz.f55.eq_1) ?_
   refine ⟨_, by omega, i + 1, bs ++ [s.getD i 0], rfl, rfl, by omega, by omega, ext_ahead hx ha oM, hB2, by simp; omega, fun b hb' => ?_, ?_⟩
   ·rcases List.mem_append.1 hb' with q | q
    ·exact hbb b q
    ·simp at q; subst q; exact hb.getD i
   ·rw [hr, qF_one hlt h96]
    cases qF (s.drop (i + 1)) with
    | none => rfl
    | some r => simp; omega
  ·refine ws1 (cj e0 <| cj e2 <| cj e3 <| cj e4 <| cj hg @Tryz.f55.eq_1) ?_
   refine ⟨hx.put (Nat.le_refl _) _, ?_⟩
   rw [hqF, hr, List.drop_eq_nil_of_le oM]
   rfl
end
noncomputable section
variable {S : Set0} (hS : Std S)
def tF (q : Nat) : List Nat → Option (List Nat × Nat)
 | [] => none
 | x :: l => if x = 92 then (match l with
    | [] => none
    | y :: l' => (tF q l').map fun r => (escB y ++ r.1, r.2 + 2))
   else if x = q then (match l with
    | [] => some ([], 1)
    | y :: l' => if y = q then (tF q l').map fun r => (q :: r.1, r.2 + 2) else some ([], 1))
   else (tF q l).map fun r => (x :: r.1, r.2 + 1)
def isQ (b : Nat) : Prop := b = 39 ∨ b = 34
instance (b : Nat) : Decidable (isQ b) := inferInstanceAs (Decidable (_ ∨ _))
def textF (s : List Nat) : V := if isQ (s.getD 0 0) then (match tF (s.getD 0 0) (s.drop 1) with
  | some r => foundV 3 r.1 (r.2 + 1) 0
  | none => foundV 0 [] 0 190) else foundV 0 [] 0 0
theorem tF_esc {q : Nat} {s : List Nat} {i : Nat} (hi : i + 1 < s.length) (h1 : s.getD i 0 = 92) : tF q (s.drop i) = (tF q (s.drop (i + 2))).map fun r => (escB (s.getD (i + 1) 0) ++ r.1, r.2 + 2) := by
 rw [drop_cons oM, h1, drop_cons hi, tF.eq_def]
 simp only [if_pos]
theorem tF_esc_end {q : Nat} {s : List Nat} {i : Nat} (hi : i + 1 = s.length) (h1 : s.getD i 0 = 92) : tF q (s.drop i) = none := by
 rw [drop_cons oM, h1, List.drop_eq_nil_of_le oM, tF.eq_def]
 simp only [if_pos]
theorem tF_end {q : Nat} {s : List Nat} {i : Nat} (hi : i < s.length) (h0 : s.getD i 0 ≠ 92) (h1 : s.getD i 0 = q) (h2 : i + 1 = s.length ∨ s.getD (i + 1) 0 ≠ q) : tF q (s.drop i) = some ([], 1) := by
 rw [drop_cons hi, tF.eq_def]
 simp only
 rw [if_neg h0, if_pos h1]
 by_cases hl : i + 1 < s.length
 ·rw [drop_cons hl]
  simp only
  rw [if_neg (by rcases h2 with h2 | h2; omega; exact h2)]
 ·rw [List.drop_eq_nil_of_le oM]
theorem tF_two {q : Nat} {s : List Nat} {i : Nat} (hi : i + 1 < s.length) (h0 : s.getD i 0 ≠ 92) (h1 : s.getD i 0 = q) (h2 : s.getD (i + 1) 0 = q) : tF q (s.drop i) = (tF q (s.drop (i + 2))).map fun r => (q :: r.1, r.2 + 2) := by
 rw [drop_cons oM, drop_cons hi, tF.eq_def]
 simp only
 rw [if_neg h0, if_pos h1, if_pos h2]
theorem tF_one {q : Nat} {s : List Nat} {i : Nat} (hi : i < s.length) (h0 : s.getD i 0 ≠ 92) (h1 : s.getD i 0 ≠ q) : tF q (s.drop i) = (tF q (s.drop (i + 1))).map fun r => (s.getD i 0 :: r.1, r.2 + 1) := by
 rw [drop_cons hi, tF.eq_def]
 simp only
 rw [if_neg h0, if_neg h1]
theorem escB_bytes {b : Nat} (h : b < 256) : Bytes (escB b) ∧ (escB b).length ≤ 2 := by
 unfold escB Bytes
 repeat' split
 all_goals simp
 all_goals omega
theorem Bytes.append {a b : List Nat} (ha : Bytes a) (hb : Bytes b) : Bytes (a ++ b) := fun x hx => (List.mem_append.1 hx).elim (ha x) (hb x)
include hS
theorem text_spec (s : List Nat) (h : H) (hs : s.length < 2 ^ 26) (hb : Bytes s) (h0 : s ≠ []) : Pure S.cfg 56 [.str s] h fun v _ => v = textF s := by
 refine inn Tryz.func56 (hS.own _ dC) rfl rfl ?_
 have hl : 0 < s.length := List.length_pos_iff.2 h0
 refine wds1 @Tryz.f56.eq_1 ?_
 refine ⟨hl, fun _ => hl, fun hq => ?_, fun hq => ?_⟩
 ·refine ⟨((Ext.refl h).push _).put (Nat.le_refl _) _, ?_⟩
  rw [textF, if_neg (by unfold isQ; omega)]
  rfl
 ·have hq : isQ (s.getD 0 0) := by unfold isQ; omega
  have hqF : textF s = (match tF (s.getD 0 0) (s.drop 1) with
   | some r => foundV 3 r.1 (r.2 + 1) 0
   | none => foundV 0 [] 0 190) := by rw [textF, if_pos hq]
  have hx1 : ¬ h.nx = h.nx + 1 := oM
  refine run_loop (fun m env h' => ∃ (i : Nat) (bs : List Nat), m = s.length + 1 - i ∧ env 0 = .str s ∧ env 2 = .ptr h.nx 0 ∧ env 3 = .ptr (h.nx + 1) 0 ∧ env 4 = .int .i64 i ∧ 1 ≤ i ∧ i ≤ s.length + 1 ∧ Ext h h' ∧ h'.get h.nx = some (.cells [.int .i64 0, .str [], .int .i64 0, .int .i64 0, .int .i64 0] 124 false) ∧ BldIs h' (h.nx + 1) bs ∧ bs.length ≤ i ∧ Bytes bs ∧
   tF (s.getD 0 0) (s.drop 1) = (tF (s.getD 0 0) (s.drop i)).map fun r => (bs ++ r.1, r.2 + (i - 1))) (s.length) ⟨1, [], by refine ws1 hx1 ?_; exact ⟨by omega, ((Ext.refl h).push _).push _, ⟨.nilptr, .nilslice, by rw [push_get]; exact if_pos rfl, Nat.lt_succ_self _, .inl rfl, .inl ⟨rfl, rfl⟩⟩, fun b hb => by simp at hb, by simp⟩⟩ ?_
  rintro m env h' ⟨i, bs, rfl, e0, e2, e3, e4, hi1, hi, hx, hg, hB, hbl, hbb, hr⟩
  have hBn : h.nx + 1 < h'.nx := by obtain ⟨_, _, _, hp, _⟩ := hB; exact hp
  by_cases hlt : i < s.length
  ·by_cases h92 : s.getD i 0 = 92
   ·by_cases hn : i + 1 < s.length
    ·refine wds1 (cj e0 <| cj e2 <| cj e3 <| cj e4 <| cj @Tryz.f56.eq_1 <| cj hl <| cj hlt <| cj h92 hn) ?_
     have hbe := escB_bytes (hb.getD (i + 1))
     refine callF_of (escaped_spec hS (h.nx + 1) bs (s.getD (i + 1) 0) h' hB (hb.getD _) oM) (fun k hk => .inl oM) ?_
     rintro v h2 ⟨ha, hB2⟩
     have hg2 : h2.get h.nx = some (.cells [.int .i64 0, .str [], .int .i64 0, .int .i64 0, .int .i64 0] 124 false) := by rw [ha.2 h.nx oM]; exact hg
     refine wds1 (cj e0 <| cj e2 <| cj e3 <| cj e4 <| cj hg2 @Tryz.f56.eq_1) ?_
     refine ⟨_, by omega, i + 2, bs ++ escB (s.getD (i + 1) 0), rfl, by omega, by omega, by omega, ext_ahead hx ha oM, hB2, by rw [List.length_append]; omega, hbb.append hbe.1, ?_⟩
     rw [hr, tF_esc hn h92]
     cases tF (s.getD 0 0) (s.drop (i + 2)) with
     | none => rfl
     | some r => simp; omega
    ·refine wds1 (cj e0 <| cj e2 <| cj e3 <| cj e4 <| cj @Tryz.f56.eq_1 <| cj hl <| cj hlt <| cj h92 hn) ?_
     refine ⟨_, by omega, i + 2, bs, rfl, by omega, by omega, by omega, hx, hg, hB, by omega, hbb, ?_⟩
     rw [hr, tF_esc_end oM h92, List.drop_eq_nil_of_le oM]
     rfl
   ·by_cases hqq : s.getD i 0 = s.getD 0 0
    ·have h92' : ¬ s.getD 0 0 = 92 := by rw [← hqq]; exact h92
     by_cases hend : i + 1 = s.length ∨ ¬ s.getD (i + 1) 0 = s.getD 0 0
     ·refine wds1 (cj e0 <| cj e2 <| cj e3 <| cj e4 <| cj @Tryz.f56.eq_1 <| cj hl <| cj hlt <| cj h92' <| cj hqq hend) ?_
      refine ⟨fun q => by omega, callF_of (string_spec hS (h.nx + 1) bs h' hB hbb oM) (fun k hk => .inl oM) ?_⟩
      rintro v h2 ⟨rfl, ha⟩
      have hg2 : h2.get h.nx = some (.cells [.int .i64 0, .str [], .int .i64 0, .int .i64 0, .int .i64 0] 124 false) := by rw [ha.2 h.nx oM]; exact hg
      refine wds1 (cj e0 <| cj e2 <| cj e3 <| cj e4 <| cj hg2 @Tryz.f56.eq_1) ?_
      refine ⟨(ext_ahead hx ha oM).put (Nat.le_refl _) _, ?_⟩
      rw [hqF, hr, tF_end hlt h92 hqq hend]
      simp only [Option.map_some, List.append_nil, foundV]
      rw [show 1 + (i - 1) + 1 = i + 1 by omega]
      rfl
     ·have hn : i + 1 < s.length := oM
      have hs1 : s.getD (i + 1) 0 = s.getD 0 0 := by
       by_cases q : s.getD (i + 1) 0 = s.getD 0 0
       ·exact q
       ·exact (hend (.inr q)).elim
      have hne : ¬ i + 1 = s.length := oM
      refine wds1 (cj e0 <| cj e2 <| cj e3 <| cj e4 <| cj @Tryz.f56.eq_1 <| cj hl <| cj hlt <| cj h92' <| cj hqq <| cj hn <| cj hs1 hne) ?_
      refine callF_of (writeByte_spec hS (h.nx + 1) bs (s.getD 0 0) h' hB (hb.getD 0) oM) (fun k hk => .inl oM) ?_
      rintro v h2 ⟨ha, hB2⟩
      have hg2 : h2.get h.nx = some (.cells [.int .i64 0, .str [], .int .i64 0, .int .i64 0, .int .i64 0] 124 false) := by rw [ha.2 h.nx oM]; exact hg
      refine wds1 (cj e0 <| cj e2 <| cj e3 <| cj e4 <| cj hg2 @Tryz.f56.eq_1) ?_
      refine ⟨_, by omega, i + 2, bs ++ [s.getD 0 0], rfl, by omega, by omega, by omega, ext_ahead hx ha oM, hB2, by rw [List.length_append]; simp; omega, hbb.append (fun b hb' => by simp at hb'; subst hb'; exact hb.getD 0), ?_⟩
      rw [hr, tF_two hn h92 hqq hs1]
      cases tF (s.getD 0 0) (s.drop (i + 2)) with
      | none => rfl
      | some r => simp; omega
    ·refine wds1 (cj e0 <| cj e2 <| cj e3 <| cj e4 <| cj @Tryz.f56.eq_1 <| cj hl <| cj hlt <| cj h92 hqq) ?_
     refine callF_of (writeByte_spec hS (h.nx + 1) bs (s.getD i 0) h' hB (hb.getD i) oM) (fun k hk => .inl oM) ?_
     rintro v h2 ⟨ha, hB2⟩
     have hg2 : h2.get h.nx = some (.cells [.int .i64 0, .str [], .int .i64 0, .int .i64 0, .int .i64 0] 124 false) := by rw [ha.2 h.nx oM]; exact hg
     refine wds1 (cj e0 <| cj e2 <| cj e3 <| cj e4 <| cj hg2 @Tryz.f56.eq_1) ?_
     refine ⟨_, by omega, i + 1, bs ++ [s.getD i 0], rfl, rfl, by omega, by omega, ext_ahead hx ha oM, hB2, by simp; omega, hbb.append (fun b hb' => by simp at hb'; subst hb'; exact hb.getD i), ?_⟩
     rw [hr, tF_one hlt h92 hqq]
     cases tF (s.getD 0 0) (s.drop (i + 1)) with
     | none => rfl
     | some r => simp; omega
  ·refine wds1 (cj e0 <| cj e2 <| cj e3 <| cj e4 <| cj @Tryz.f56.eq_1 <| cj hl <| cj hlt hg) ?_
   refine ⟨hx.put (Nat.le_refl _) _, ?_⟩
   rw [hqF, hr, List.drop_eq_nil_of_le oM]
   rfl
end
noncomputable section
variable {S : Set0} (hS : Std S)
theorem runF_le (s : List Nat) : (runF s).1 ≤ s.length := by
 induction hn : s.length using Nat.strongRecOn generalizing s with
 | ind n ih =>
   subst hn
   by_cases h0 : s = []
   ·subst h0; rw [runF_nil]; simp
   ·have hp := dec_pos s
    have hw := dec_le s h0
    have hl : 0 < s.length := List.length_pos_iff.2 h0
    have ih1 := ih (s.drop (dec s).2).length (by rw [List.length_drop]; omega) (s.drop (dec s).2) rfl
    rw [List.length_drop] at ih1
    by_cases h1 : badR s
    ·rw [runF_bad h0 h1]; simp
    ·by_cases h2 : letterR (dec s).1
     ·rw [runF_letter h0 h1 h2]; simp only; omega
     ·by_cases h3 : isDigit (dec s).1
      ·rw [runF_digit h0 h1 h2 h3]; simp only; omega
      ·rw [runF_stop h0 h1 h2 h3]; simp
def nameF (s : List Nat) : V := if (runF s).2 = true then foundV 1 (lowS (s.take (runF s).1)) (runF s).1 0 else foundV 0 [] 0 0
def oddF (s : List Nat) : V := if hasP s [47, 42, 33] ∨ hasP s [47, 42, 43] then (match findS [42, 47] (s.drop 2) with
  | some i => foundV 9 (s.take (i + 4)) (i + 4) 0
  | none => foundV 0 [] 0 190) else foundV 0 [] 0 0
def nameN (s : List Nat) : Nat := if (runF s).2 = true then (runF s).1 else 0
theorem nameF_shape (s : List Nat) : ∃ k t, nameF s = foundV k t (nameN s) 0 := by
 unfold nameF nameN
 split
 ·exact ⟨_, _, rfl⟩
 ·exact ⟨_, _, rfl⟩
theorem numF_shape (s : List Nat) : ∃ k t, numF s = foundV k t (numN s) 0 := by
 unfold numF
 split
 ·rename_i h; rw [h]; exact ⟨_, _, rfl⟩
 ·exact ⟨_, _, rfl⟩
def eitherF (s : List Nat) : V := if numN s < nameN s then nameF s else numF s
include hS
theorem name_spec (s : List Nat) (h : H) (hs : s.length < 2 ^ 26) (hb : Bytes s) : Pure S.cfg 98 [.str s] h fun v _ => v = nameF s := by
 have hrl := runF_le s
 refine inn Tryz.func98 (hS.own _ dC) rfl rfl ?_
 refine wds1 @Tryz.f98.eq_1 ?_
 refine callF_pure (run_spec hS s _ oM hb) ?_
 rintro v h1 hx rfl
 have hg : h1.get h.nx = some (.cells [.int .i64 0, .str [], .int .i64 0, .int .i64 0, .int .i64 0] 124 false) := by
  rw [hx.2 h.nx (Nat.lt_succ_self _), push_get, if_pos rfl]
 have hx1 : Ext h h1 := ((Ext.refl h).push _).trans hx
 refine wds1 (cj @Tryz.f98.eq_1 hg) ?_
 refine ⟨fun hn => ⟨hx1.put (Nat.le_refl _) _, ?_⟩, fun hn => ⟨hrl, callF_pure (small_spec hS _ _ (by rw [List.length_take]; omega) (hb.take _)) ?_⟩⟩
 ·rw [nameF, if_neg hn]
  rfl
 ·rintro v h2 hx2 rfl
  have hg2 : h2.get h.nx = some (.cells [.int .i64 0, .str [], .int .i64 0, .int .i64 0, .int .i64 0] 124 false) := by
   rw [hx2.2 h.nx (Nat.lt_of_lt_of_le (Nat.lt_succ_self _) hx.1)]; exact hg
  refine wds1 (cj @Tryz.f98.eq_1 hg2) ?_
  refine ⟨(hx1.trans hx2).put (Nat.le_refl _) _, ?_⟩
  rw [nameF, if_pos (by simpa using hn)]
  rfl
theorem odd_spec (s : List Nat) (h : H) (hs : s.length < 2 ^ 26) (hb : Bytes s) : Pure S.cfg 53 [.str s] h fun v _ => v = oddF s := by
 refine inn Tryz.func53 (hS.own _ dC) rfl rfl ?_
 refine wds1 @Tryz.f53.eq_1 ?_
 refine callF_exact (hasPrefix_spec hS _ _ _) ?_
 refine wds1 @Tryz.f53.eq_1 ?_
 refine gCall_exact (first := []) (cap := []) (fun _ => hasPrefix_spec hS _ _ _) (fun fp => ?_)
 refine wds1 @Tryz.f53.eq_1 ?_
 refine ⟨fun hn => ⟨((Ext.refl h).push _).put (Nat.le_refl _) _, ?_⟩, fun hn => ?_⟩
 ·rw [oddF, if_neg (by unfold hasP; rintro (q | q); exact hn.1 q; exact hn.2 q)]
  rfl
 ·have hn : hasP s [47, 42, 33] ∨ hasP s [47, 42, 43] := by
   by_cases q : hasP s [47, 42, 33]
   ·exact .inl q
   ·by_cases q2 : hasP s [47, 42, 43]
    ·exact .inr q2
    ·exact (hn ⟨q, q2⟩).elim
  have hl3 : 3 ≤ s.length := by rcases hn with q | q <;> exact q.1
  have e : oddF s = (match findS [42, 47] (s.drop 2) with
   | some i => foundV 9 (s.take (i + 4)) (i + 4) 0
   | none => foundV 0 [] 0 190) := by rw [oddF, if_pos hn]
  refine ⟨by omega, callF_exact (index_spec hS _ _ (by rw [List.length_drop]; omega) _) ?_⟩
  rw [index_find]
  cases hf : findS [42, 47] (s.drop 2) with
  | none =>
    rw [hf] at e
    refine wds1 @Tryz.f53.eq_1 ?_
    refine ⟨((Ext.refl h).push _).put (Nat.le_refl _) _, ?_⟩
    rw [e]; rfl
  | some i =>
    have := findS_le hf
    rw [List.length_drop] at this
    rw [hf] at e
    simp only [List.length_cons, List.length_nil] at this
    refine wds1 @Tryz.f53.eq_1 ?_
    refine ⟨fun q => by omega, fun _ => ⟨by omega, ((Ext.refl h).push _).put (Nat.le_refl _) _, ?_⟩⟩
    rw [e]; rfl
theorem either_spec (s : List Nat) (h : H) (hs : s.length < 2 ^ 26) (hb : Bytes s) : Pure S.cfg 54 [.str s] h fun v _ => v = eitherF s := by
 refine inn Tryz.func54 (hS.own _ dC) rfl rfl ?_
 refine wds1 @Tryz.f54.eq_1 ?_
 refine callF_pure (number_spec hS s _ oM hb) ?_
 rintro v h1 hx rfl
 refine wds1 @Tryz.f54.eq_1 ?_
 refine callF_pure (name_spec hS s _ hs hb) ?_
 rintro v h2 hx2 rfl
 obtain ⟨k1, t1, e1⟩ := numF_shape s
 obtain ⟨k2, t2, e2⟩ := nameF_shape s
 have hn1 : h.nx < h1.nx := Nat.lt_of_lt_of_le (Nat.lt_succ_self _) hx.1
 have hn2 : h.nx < h2.nx := Nat.lt_of_lt_of_le hn1 hx2.1
 have hg : h2.get h.nx = some (.cells [.int .i64 0, .str [], .int .i64 0, .int .i64 0, .int .i64 0] 124 false) := by
  rw [hx2.2 h.nx hn1, hx.2 h.nx (Nat.lt_succ_self _), push_get, if_pos rfl]
 have hx1 : Ext h h2 := (((Ext.refl h).push _).trans hx).trans hx2
 have n1 : ¬ h.nx = h2.nx := oM
 have n2 : ¬ h.nx = h2.nx + 1 := oM
 have n3 : ¬ h2.nx = h2.nx + 1 := oM
 have n4 : ¬ h2.nx + 1 = h2.nx := oM
 refine wds1 (cj @Tryz.f54.eq_1 <| cj e1 <| cj e2 <| cj @foundV.eq_1 <| cj hg <| cj n1 <| cj n2 <| cj n3 n4) ?_
 refine ⟨by omega, by omega, fun q => ⟨((((hx1.push _).push _).put oM _).put oM _).put (Nat.le_refl _) _, ?_⟩, fun q => ⟨((((hx1.push _).push _).put oM _).put oM _).put (Nat.le_refl _) _, ?_⟩⟩
 ·rw [eitherF, if_pos q, e2]; rfl
 ·rw [eitherF, if_neg q, e1]; rfl
omit hS
def sysN : Nat → List Nat → Nat
 | 0, _ => 0
 | f + 1, s => if (runF s).1 < s.length ∧ s.getD (runF s).1 0 = 46 then (runF s).1 + 1 + sysN f (s.drop ((runF s).1 + 1)) else (runF s).1
def sysF (s : List Nat) : V := if hasP s [64, 64] then (if sysN (s.length + 1) (s.drop 2) = 0 then foundV 0 [] 0 191 else foundV 7 (lowS ((s.take (2 + sysN (s.length + 1) (s.drop 2))).drop 2)) (2 + sysN (s.length + 1) (s.drop 2)) 0) else foundV 0 [] 0 0
include hS
theorem system_spec (s : List Nat) (h : H) (hs : s.length < 2 ^ 26) (hb : Bytes s) : Pure S.cfg 57 [.str s] h fun v _ => v = sysF s := by
 refine inn Tryz.func57 (hS.own _ dC) rfl rfl ?_
 refine wds1 @Tryz.f57.eq_1 ?_
 refine callF_exact (hasPrefix_spec hS _ _ _) ?_
 refine wds1 @Tryz.f57.eq_1 ?_
 refine ⟨fun hn => ⟨((Ext.refl h).push _).put (Nat.le_refl _) _, ?_⟩, fun hn => ?_⟩
 ·rw [sysF, if_neg (show ¬ hasP s [64, 64] from hn)]
  rfl
 ·have hn : hasP s [64, 64] := by
   by_cases q : hasP s [64, 64]
   ·exact q
   ·exact (hn q).elim
  have hl2 : 2 ≤ s.length := hn.1
  have e : sysF s = if sysN (s.length + 1) (s.drop 2) = 0 then foundV 0 [] 0 191 else foundV 7 (lowS ((s.take (2 + sysN (s.length + 1) (s.drop 2))).drop 2)) (2 + sysN (s.length + 1) (s.drop 2)) 0 := by rw [sysF, if_pos hn]
  refine run_loop (fun m env h' => ∃ (i f : Nat), m = s.length + 1 - i ∧ env 0 = .str s ∧ env 2 = .ptr h.nx 0 ∧ env 3 = .int .i64 i ∧ 2 ≤ i ∧ i ≤ s.length ∧ s.length < f + i ∧ Ext h h' ∧ h.nx < h'.nx ∧ h'.get h.nx = some (.cells [.int .i64 0, .str [], .int .i64 0, .int .i64 0, .int .i64 0] 124 false) ∧ 2 + sysN (s.length + 1) (s.drop 2) = i + sysN f (s.drop i)) (s.length - 1) ⟨2, s.length + 1, by refine ws0 ?_; exact ⟨by omega, by omega, by omega, (Ext.refl h).push _, by omega⟩⟩ ?_
  rintro m env h' ⟨i, f, rfl, e0, e2, e3, hi2, hi, hf, hx, hn1, hg, hr⟩
  obtain ⟨f', rfl⟩ : ∃ f', f = f' + 1 := ⟨f - 1, by omega⟩
  have hrl := runF_le (s.drop i)
  rw [List.length_drop] at hrl
  refine wds1 (cj e0 <| cj e2 <| cj e3 @Tryz.f57.eq_1) ?_
  refine ⟨hi, callF_pure (run_spec hS _ _ (by rw [List.length_drop]; omega) (hb.drop i)) ?_⟩
  rintro v h1 hx1 rfl
  have hg1 : h1.get h.nx = some (.cells [.int .i64 0, .str [], .int .i64 0, .int .i64 0, .int .i64 0] 124 false) := by
   rw [hx1.2 h.nx hn1]; exact hg
  have hgd : (s.drop i).getD (runF (s.drop i)).1 0 = s.getD (i + (runF (s.drop i)).1) 0 := by
   simp [List.getD_eq_getElem?_getD]
  by_cases hc : i + (runF (s.drop i)).1 < s.length ∧ s.getD (i + (runF (s.drop i)).1) 0 = 46
  ·have hne : ¬ i + (runF (s.drop i)).1 = s.length := oM
   refine wds1 (cj e0 <| cj e2 <| cj e3 <| cj @hc.1 <| cj @hc.2 <| cj hne @Tryz.f57.eq_1) ?_
   refine ⟨_, by omega, i + (runF (s.drop i)).1 + 1, f', rfl, rfl, by omega, by omega, by omega, hx.trans hx1, Nat.lt_of_lt_of_le hn1 hx1.1, hg1, ?_⟩
   rw [hr, sysN, if_pos ⟨by rw [List.length_drop]; omega, by rw [hgd]; exact hc.2⟩, List.drop_drop]
   rw [show i + ((runF (s.drop i)).1 + 1) = i + (runF (s.drop i)).1 + 1 by omega]
   omega
  ·have hend : sysN (f' + 1) (s.drop i) = (runF (s.drop i)).1 := by
    rw [sysN, if_neg (fun q => hc ⟨by have := q.1; rw [List.length_drop] at this; omega, by rw [← hgd]; exact q.2⟩)]
   rw [hend] at hr
   have hc2 : i + (runF (s.drop i)).1 = s.length ∨ ¬ s.getD (i + (runF (s.drop i)).1) 0 = 46 := by
    by_cases q : i + (runF (s.drop i)).1 = s.length
    ·exact .inl q
    ·exact .inr fun q2 => hc ⟨by omega, q2⟩
   refine wds1 (cj e0 <| cj e2 <| cj e3 <| cj hc2 <| cj hg1 @Tryz.f57.eq_1) ?_
   refine ⟨fun q => by omega, fun q => ⟨(hx.trans hx1).put (Nat.le_refl _) _, ?_⟩, fun q => ⟨⟨by omega, by omega⟩, callF_pure (small_spec hS _ _ (by rw [List.length_drop, List.length_take]; omega) ((hb.take _).drop 2)) ?_⟩⟩
   ·rw [e, if_pos oM]
    rfl
   ·rintro v h2 hx2 rfl
    have hg2 : h2.get h.nx = some (.cells [.int .i64 0, .str [], .int .i64 0, .int .i64 0, .int .i64 0] 124 false) := by
     rw [hx2.2 h.nx (Nat.lt_of_lt_of_le hn1 hx1.1)]; exact hg1
    refine wds1 (cj e0 <| cj e2 <| cj e3 <| cj hc2 <| cj hg2 @Tryz.f57.eq_1) ?_
    refine ⟨((hx.trans hx1).trans hx2).put (Nat.le_refl _) _, ?_⟩
    rw [e, if_neg oM, hr]
    rfl
end
noncomputable section
variable {S : Set0} (hS : Std S)
structure FD where
 kind : Nat
 text : List Nat
 n : Nat
 e : Nat
def FD.v (d : FD) : V := foundV d.kind d.text d.n d.e
def FD.none : FD := ⟨0, [], 0, 0⟩
def FD.bad (e : Nat) : FD := ⟨0, [], 0, e⟩
def quotD (s : List Nat) : FD := if s.getD 0 0 = 96 then (match qF (s.drop 1) with
  | some r => ⟨2, r.1, r.2 + 1, 0⟩
  | Option.none => FD.bad 190) else FD.none
def textD (s : List Nat) : FD := if isQ (s.getD 0 0) then (match tF (s.getD 0 0) (s.drop 1) with
  | some r => ⟨3, r.1, r.2 + 1, 0⟩
  | Option.none => FD.bad 190) else FD.none
def nameD (s : List Nat) : FD := if (runF s).2 = true then ⟨1, lowS (s.take (runF s).1), (runF s).1, 0⟩ else FD.none
theorem quotD_v (s : List Nat) : quotF s = (quotD s).v := by
 unfold quotF quotD
 split
 ·cases qF (s.drop 1) <;> rfl
 ·rfl
theorem textD_v (s : List Nat) : textF s = (textD s).v := by
 unfold textF textD
 split
 ·cases tF (s.getD 0 0) (s.drop 1) <;> rfl
 ·rfl
theorem nameD_v (s : List Nat) : nameF s = (nameD s).v := by
 unfold nameF nameD
 split <;> rfl
theorem qF_bytes : ∀ (f : Nat) {s : List Nat}, s.length ≤ f → Bytes s → ∀ {r}, qF s = some r → Bytes r.1 ∧ r.1.length ≤ s.length ∧ r.2 ≤ s.length
 | f, [], _, _, r, h => by cases h
 | 0, x :: l, hf, _, _, _ => by simp at hf
 | f + 1, x :: l, hf, hb, r, h => by
   have hbl : Bytes l := fun b hb' => hb b (by simp [hb'])
   rw [qF.eq_def] at h
   simp only at h
   split at h
   ·split at h
    ·cases h; exact ⟨fun b hb => by simp at hb, by simp, by simp⟩
    ·rename_i y l'
     split at h
     ·cases hq : qF l' with
      | none => rw [hq] at h; cases h
      | some r' =>
        rw [hq] at h; cases h
        obtain ⟨h1, h2, h3⟩ := qF_bytes f (s := l') (by simp at hf; omega) (fun b hb' => hbl b (by simp [hb'])) hq
        refine ⟨fun b hb' => ?_, by simp; omega, by simp; omega⟩
        simp at hb'
        rcases hb' with rfl | hb'
        ·omega
        ·exact h1 b hb'
     ·cases h; exact ⟨fun b hb => by simp at hb, by simp, by simp⟩
   ·cases hq : qF l with
    | none => rw [hq] at h; cases h
    | some r' =>
      rw [hq] at h; cases h
      obtain ⟨h1, h2, h3⟩ := qF_bytes f (s := l) (by simp at hf; omega) hbl hq
      refine ⟨fun b hb' => ?_, by simp; omega, by simp; omega⟩
      simp at hb'
      rcases hb' with rfl | hb'
      ·exact hb _ (by simp)
      ·exact h1 b hb'
theorem tF_bytes {q : Nat} (hq : q < 256) : ∀ (f : Nat) {s : List Nat}, s.length ≤ f → Bytes s → ∀ {r}, tF q s = some r → Bytes r.1 ∧ r.1.length ≤ s.length ∧ r.2 ≤ s.length
 | f, [], _, _, r, h => by cases h
 | 0, x :: l, hf, _, _, _ => by simp at hf
 | f + 1, x :: l, hf, hb, r, h => by
   have hbl : Bytes l := fun b hb' => hb b (by simp [hb'])
   rw [tF.eq_def] at h
   simp only at h
   split at h
   ·split at h
    ·cases h
    ·rename_i y l'
     cases hq' : tF q l' with
     | none => rw [hq'] at h; cases h
     | some r' =>
       rw [hq'] at h; cases h
       obtain ⟨h1, h2, h3⟩ := tF_bytes hq f (s := l') (by simp at hf; omega) (fun b hb' => hbl b (by simp [hb'])) hq'
       have he := escB_bytes (hbl y (by simp))
       exact ⟨he.1.append h1, by simp; omega, by simp; omega⟩
   ·split at h
    ·split at h
     ·cases h; exact ⟨fun b hb => by simp at hb, by simp, by simp⟩
     ·rename_i y l'
      split at h
      ·cases hq' : tF q l' with
       | none => rw [hq'] at h; cases h
       | some r' =>
         rw [hq'] at h; cases h
         obtain ⟨h1, h2, h3⟩ := tF_bytes hq f (s := l') (by simp at hf; omega) (fun b hb' => hbl b (by simp [hb'])) hq'
         refine ⟨fun b hb' => ?_, by simp; omega, by simp; omega⟩
         simp at hb'
         rcases hb' with rfl | hb'
         ·exact hq
         ·exact h1 b hb'
      ·cases h; exact ⟨fun b hb => by simp at hb, by simp, by simp⟩
    ·cases hq' : tF q l with
     | none => rw [hq'] at h; cases h
     | some r' =>
       rw [hq'] at h; cases h
       obtain ⟨h1, h2, h3⟩ := tF_bytes hq f (s := l) (by simp at hf; omega) hbl hq'
       refine ⟨fun b hb' => ?_, by simp; omega, by simp; omega⟩
       simp at hb'
       rcases hb' with rfl | hb'
       ·exact hb _ (by simp)
       ·exact h1 b hb'
def FD.ok (d : FD) (s : List Nat) : Prop := Bytes d.text ∧ d.text.length ≤ s.length ∧ d.n ≤ s.length
theorem FD.ok_none (s : List Nat) : FD.none.ok s := ⟨fun b hb => by simp [FD.none] at hb, by simp [FD.none], by simp [FD.none]⟩
theorem FD.ok_bad (s : List Nat) (e : Nat) : (FD.bad e).ok s := ⟨fun b hb => by simp [FD.bad] at hb, by simp [FD.bad], by simp [FD.bad]⟩
theorem quotD_ok {s : List Nat} (h0 : s ≠ []) (hb : Bytes s) : (quotD s).ok s := by
 have hl : 0 < s.length := List.length_pos_iff.2 h0
 unfold quotD
 split
 ·cases hq : qF (s.drop 1) with
  | none => exact FD.ok_bad _ _
  | some r =>
    obtain ⟨h1, h2, h3⟩ := qF_bytes _ (Nat.le_refl _) (hb.drop 1) hq
    rw [List.length_drop] at h2 h3
    exact ⟨h1, by show r.1.length ≤ _; omega, by show r.2 + 1 ≤ _; omega⟩
 ·exact FD.ok_none _
theorem textD_ok {s : List Nat} (h0 : s ≠ []) (hb : Bytes s) : (textD s).ok s := by
 have hl : 0 < s.length := List.length_pos_iff.2 h0
 unfold textD
 split
 ·cases hq : tF (s.getD 0 0) (s.drop 1) with
  | none => exact FD.ok_bad _ _
  | some r =>
    obtain ⟨h1, h2, h3⟩ := tF_bytes (hb.getD 0) _ (Nat.le_refl _) (hb.drop 1) hq
    rw [List.length_drop] at h2 h3
    exact ⟨h1, by show r.1.length ≤ _; omega, by show r.2 + 1 ≤ _; omega⟩
 ·exact FD.ok_none _
theorem nameD_ok {s : List Nat} (hb : Bytes s) : (nameD s).ok s := by
 unfold nameD
 split
 ·exact ⟨lowS_bytes (hb.take _), by simp [lowS]; omega, runF_le s⟩
 ·exact FD.ok_none _
def tryU : List FD → FD
 | [] => FD.bad 191
 | d :: l => if d.e ≠ 0 then d else if 0 < d.n then ⟨6, lowS d.text, 1 + d.n, 0⟩ else tryU l
def userD (s : List Nat) : FD := if s.getD 0 0 = 64 then (if s.length = 1 then FD.bad 191 else tryU [quotD (s.drop 1), textD (s.drop 1), nameD (s.drop 1)]) else FD.none
include hS
theorem user_spec (s : List Nat) (h : H) (hs : s.length < 2 ^ 26) (hb : Bytes s) (h0 : s ≠ []) : Pure S.cfg 58 [.str s] h fun v _ => v = (userD s).v := by
 have hl : 0 < s.length := List.length_pos_iff.2 h0
 refine inn Tryz.func58 (hS.own _ dC) rfl rfl ?_
 refine ws1 @Tryz.f58.eq_1 ?_
 refine ⟨hl, fun hn => ⟨((Ext.refl h).push _).put (Nat.le_refl _) _, ?_⟩, fun hn => ⟨fun h1 => ⟨((Ext.refl h).push _).put (Nat.le_refl _) _, ?_⟩, fun h1 => ?_⟩⟩
 ·rw [userD, if_neg hn]; rfl
 ·rw [userD, if_pos (by simpa using hn), if_pos h1]; rfl
 ·have hn : s.getD 0 0 = 64 := by simpa using hn
  have e : userD s = tryU [quotD (s.drop 1), textD (s.drop 1), nameD (s.drop 1)] := by rw [userD, if_pos hn, if_neg h1]
  have ht0 : s.drop 1 ≠ [] := fun q => by have := congrArg List.length q; simp at this; omega
  have htl : (s.drop 1).length < 2 ^ 26 := by rw [List.length_drop]; omega
  have hx1 : ¬ h.nx = h.nx + 1 := oM
  refine run_loop (fun m env h' => ∃ (j : Nat), m = 3 - j ∧ env 0 = .str s ∧ env 2 = .ptr h.nx 0 ∧ env 14 = .slice (h.nx + 1) 0 3 3 ∧ env 15 = .int .i64 3 ∧ env 16 = .int .i64 j ∧ j ≤ 3 ∧ Ext h h' ∧ h.nx + 1 < h'.nx ∧ h'.get h.nx = some (.cells [.int .i64 0, .str [], .int .i64 0, .int .i64 0, .int .i64 0] 124 false) ∧ h'.get (h.nx + 1) = some (.cells [.func 55 [] [], .func 56 [] [], .func 98 [] []] 121 false) ∧ userD s = tryU ([quotD (s.drop 1), textD (s.drop 1), nameD (s.drop 1)].drop j)) 3 ⟨0, by refine ws1 hx1 ?_; exact ⟨((Ext.refl h).push _).push _, by omega, e⟩⟩ ?_
  rintro m env h' ⟨j, rfl, e0, e2, e14, e15, e16, hj, hx, hn1, hg, hgf, hr⟩
  by_cases hj3 : j < 3
  ·obtain ⟨f, d, hcf, hdr, hsp, hdo⟩ : ∃ (f : FuncId) (d : FD), ([V.func 55 [] [], .func 56 [] [], .func 98 [] []] : List V)[j]? = some (.func f [] []) ∧ [quotD (s.drop 1), textD (s.drop 1), nameD (s.drop 1)].drop j = d :: [quotD (s.drop 1), textD (s.drop 1), nameD (s.drop 1)].drop (j + 1) ∧ (∀ h, Pure S.cfg f [.str (s.drop 1)] h fun v _ => v = d.v) ∧ d.ok (s.drop 1) := by
    have : j = 0 ∨ j = 1 ∨ j = 2 := oM
    rcases this with rfl | rfl | rfl
    ·exact ⟨55, quotD (s.drop 1), rfl, rfl, fun h => by rw [← quotD_v]; exact quoted_spec hS _ h htl (hb.drop 1) ht0, quotD_ok ht0 (hb.drop 1)⟩
    ·exact ⟨56, textD (s.drop 1), rfl, rfl, fun h => by rw [← textD_v]; exact text_spec hS _ h htl (hb.drop 1) ht0, textD_ok ht0 (hb.drop 1)⟩
    ·exact ⟨98, nameD (s.drop 1), rfl, rfl, fun h => by rw [← nameD_v]; exact name_spec hS _ h htl (hb.drop 1), nameD_ok (hb.drop 1)⟩
   rw [hdr, tryU] at hr
   refine ws1 (cj e0 <| cj e2 <| cj e14 <| cj e15 <| cj e16 <| cj hgf <| cj hcf <| cj hj3 @Tryz.f58.eq_1) ?_
   refine ⟨hl, callF_pure (hsp h') ?_⟩
   rintro v h1 hx1' rfl
   have g1 : h1.get h.nx = some (.cells [.int .i64 0, .str [], .int .i64 0, .int .i64 0, .int .i64 0] 124 false) := by
    rw [hx1'.2 h.nx oM]; exact hg
   have g2 : h1.get (h.nx + 1) = some (.cells [.func 55 [] [], .func 56 [] [], .func 98 [] []] 121 false) := by
    rw [hx1'.2 (h.nx + 1) oM]; exact hgf
   have hle := hx1'.1
   have n1 : ¬ h.nx = h1.nx := oM
   have n2 : ¬ h.nx + 1 = h1.nx := oM
   have n3 : h.nx ≤ h1.nx := oM
   refine ws1 (cj e0 <| cj e2 <| cj e14 <| cj e15 <| cj e16 <| cj hj3 <| cj @Tryz.f58.eq_1 <| cj @FD.v.eq_1 <| cj @foundV.eq_1 <| cj g1 <| cj g2 <| cj n1 <| cj n2 n3) ?_
   have hX : Ext h h1 := hx.trans hx1'
   refine ⟨fun he => ⟨((hX.push _).put n3 _).put (Nat.le_refl _) _, by rw [hr, if_pos he]⟩, fun he => ⟨fun hd => draw_by [(3, 6)] kR ?_, fun hd => ⟨_, by omega, j + 1, rfl, rfl, by omega, (hX.push _).put n3 _, by omega, by rw [hr, if_neg he, if_neg hd]⟩⟩⟩
   refine ws1 (cj e0 <| cj e2 <| cj e14 <| cj e15 <| cj e16 <| cj hj3 <| cj @Tryz.f58.eq_1 <| cj @FD.v.eq_1 <| cj @foundV.eq_1 <| cj g1 <| cj g2 <| cj n1 <| cj n2 n3) ?_
   refine callF_pure (small_spec hS _ _ (by have := hdo.2.1; omega) hdo.1) ?_
   rintro v h2 hx2 rfl
   have g3 : h2.get h1.nx = some (.cells [.int .i64 d.kind, .str d.text, .int .i64 (0 : Nat), .int .i64 d.n, .int .i64 d.e] 124 false) := by
    rw [hx2.2 h1.nx (Nat.lt_succ_self _), put_get, if_pos rfl]
   have g4 : h2.get h.nx = some (.cells [.int .i64 0, .str [], .int .i64 0, .int .i64 0, .int .i64 0] 124 false) := by
    rw [hx2.2 h.nx (by show h.nx < h1.nx + 1; omega), put_get, if_neg n1, push_get, if_neg n1]; exact g1
   have hdn := hdo.2.2
   refine ws1 (cj e0 <| cj e2 <| cj e14 <| cj e15 <| cj e16 <| cj hj3 <| cj @Tryz.f58.eq_1 <| cj @FD.v.eq_1 <| cj @foundV.eq_1 <| cj g3 <| cj g4 <| cj n1 <| cj n2 n3) ?_
   exact ⟨fun q hq => by
    obtain rfl : q = (3, 6) := by simpa using hq
    exact pair_one rfl rfl (fun e he' => .inr (by
     have he' := List.mem_singleton.1 he'
     subst he'
     exact ⟨rfl, by show h1.nx < h1.nx + 1; omega, fun q => q⟩)), (((hX.push _).put n3 _).trans hx2).put (Nat.le_refl _) _, by rw [hr, if_neg he, if_pos hd]; rfl⟩
  ·refine ws1 (cj e0 <| cj e2 <| cj e14 <| cj e15 <| cj e16 <| cj hg <| cj hj3 @Tryz.f58.eq_1) ?_
   refine ⟨hx.put (Nat.le_refl _) _, ?_⟩
   have : j = 3 := oM
   subst this
   rw [hr]
   rfl
end
noncomputable section
def signsT : List Nat := [60, 61, 62, 32, 45, 62, 62, 32, 60, 62, 32, 33, 61, 32, 60, 61, 32, 62, 61, 32, 58, 61, 32, 60, 60, 32, 62, 62, 32, 38, 38, 32, 124, 124, 32, 45, 62, 32, 40, 32, 41, 32, 44, 32, 59, 32, 46, 32, 43, 32, 45, 32, 42, 32, 47, 32, 37, 32, 61, 32, 60, 32, 62, 32, 38, 32, 124, 32, 94, 32, 126, 32, 33, 32, 123, 32, 125, 32, 91, 32, 93, 32, 58]
def signsL : List (List Nat) := [[60,61,62], [45,62,62], [60,62], [33,61], [60,61], [62,61], [58,61], [60,60], [62,62], [38,38], [124,124], [45,62], [40], [41], [44], [59], [46], [43], [45], [42], [47], [37], [61], [60], [62], [38], [124], [94], [126], [33], [123], [125], [91], [93], [58]]
structure StdF (S : Set0) : Prop extends Std S where
 fields : ∀ h : H, callW S.cfg nil1 23 [.str signsT] h fun v h' => v = .slice h.nx 0 35 35 ∧ h' = h.push (.cells (signsL.map V.str) 9 false)
def trySign (s : List Nat) : List (List Nat) → FD
 | [] => FD.bad 191
 | x :: l => if x.length ≤ s.length ∧ s.take x.length = x then ⟨5, x, x.length, 0⟩ else trySign s l
def signD (s : List Nat) : FD := if s.getD 0 0 = 63 then ⟨8, [], 1, 0⟩ else trySign s signsL
variable {S : Set0} (hS : StdF S)
include hS
theorem sign_spec (s : List Nat) (h : H) (h0 : s ≠ []) (hb : Bytes s) : Pure S.cfg 59 [.str s] h fun v _ => v = (signD s).v := by
 have hl : 0 < s.length := List.length_pos_iff.2 h0
 refine inn Tryz.func59 (hS.own _ dC) rfl rfl ?_
 by_cases hn : s.getD 0 0 = 63
 ·refine ws1 (cj @Tryz.f59.eq_1 <| cj hn hl) ?_
  exact ⟨((Ext.refl h).push _).put (Nat.le_refl _) _, by rw [signD, if_pos hn]; rfl⟩
 ·refine ws1 (cj @Tryz.f59.eq_1 <| cj hn hl) ?_
  have hfa : ∀ h : H, callW S.cfg nil1 23 [.str signsT] h fun v h' => v = .slice h.nx 0 35 35 ∧ h' = h.push (.cells (signsL.map V.str) 9 false) := hS.fields
  refine ⟨nil1, fun _ q => q.elim, callW_mono (hfa _) (fun _ q => q) ?_⟩
  rintro v h' ⟨rfl, rfl⟩
  have hx1 : ¬ h.nx = h.nx + 1 := oM
  refine ws1 (cj @Tryz.f59.eq_1 hx1) ?_
  refine run_loop (fun m env h' => ∃ (j : Nat), m = 35 - j ∧ env 0 = .str s ∧ env 2 = .ptr h.nx 0 ∧ env 10 = .slice (h.nx + 1) 0 35 35 ∧ env 11 = .int .i64 35 ∧ env 12 = .int .i64 j ∧ j ≤ 35 ∧ Ext h h' ∧ h.nx + 1 < h'.nx ∧ h'.get h.nx = some (.cells [.int .i64 0, .str [], .int .i64 0, .int .i64 0, .int .i64 0] 124 false) ∧ h'.get (h.nx + 1) = some (.cells (signsL.map V.str) 9 false) ∧ signD s = trySign s (signsL.drop j)) 35 ⟨0, by refine ws1 hx1 ?_; exact ⟨((Ext.refl h).push _).push _, by omega, by rw [signD, if_neg hn]⟩⟩ ?_
  rintro m env h' ⟨j, rfl, e0, e2, e14, e15, e16, hj, hx, hn1, hg, hgf, hr⟩
  by_cases hj3 : j < 35
  ·obtain ⟨x, hcf, hdr⟩ : ∃ (x : List Nat), (signsL.map V.str)[j]? = some (.str x) ∧ signsL.drop j = x :: signsL.drop (j + 1) := by
    have hjl : j < signsL.length := hj3
    exact ⟨signsL[j], by rw [List.getElem?_map, List.getElem?_eq_getElem hjl]; rfl, List.drop_eq_getElem_cons hjl⟩
   rw [hdr, trySign] at hr
   refine ws1 (cj e0 <| cj e2 <| cj e14 <| cj e15 <| cj e16 <| cj hgf <| cj hcf <| cj hj3 @Tryz.f59.eq_1) ?_
   refine callF_exact (hasPrefix_spec hS.toStd s x h') ?_
   by_cases hp : x.length ≤ s.length ∧ s.take x.length = x
   ·rw [if_pos hp] at hr
    refine ws1 (cj e0 <| cj e2 <| cj e14 <| cj e15 <| cj e16 <| cj hgf <| cj hg <| cj hcf <| cj hj3 <| cj hp @Tryz.f59.eq_1) ?_
    exact ⟨hx.put (Nat.le_refl _) _, by rw [hr]; rfl⟩
   ·rw [if_neg hp] at hr
    refine ws1 (cj e0 <| cj e2 <| cj e14 <| cj e15 <| cj e16 <| cj hgf <| cj hg <| cj hcf <| cj hj3 <| cj hp @Tryz.f59.eq_1) ?_
    exact ⟨_, by omega, j + 1, rfl, rfl, by omega, hx, hn1, hr⟩
  ·refine ws1 (cj e0 <| cj e2 <| cj e14 <| cj e15 <| cj e16 <| cj hg <| cj hj3 @Tryz.f59.eq_1) ?_
   refine ⟨hx.put (Nat.le_refl _) _, ?_⟩
   have : j = 35 := oM
   subst this
   rw [hr]
   rfl
end
noncomputable section
def oddD (s : List Nat) : FD := if hasP s [47, 42, 33] ∨ hasP s [47, 42, 43] then (match findS [42, 47] (s.drop 2) with
  | some i => ⟨9, s.take (i + 4), i + 4, 0⟩
  | none => FD.bad 190) else FD.none
theorem oddD_v (s : List Nat) : oddF s = (oddD s).v := by
 unfold oddF oddD
 split
 ·cases findS [42, 47] (s.drop 2) <;> rfl
 ·rfl
theorem hasP_len {s p : List Nat} (h : hasP s p) : p.length ≤ s.length := h.1
theorem oddD_ok {s : List Nat} (hb : Bytes s) : (oddD s).ok s := by
 unfold oddD
 split
 ·rename_i hp
  have hl : 3 ≤ s.length := by
   rcases hp with h | h
   ·exact hasP_len h
   ·exact hasP_len h
  cases hf : findS [42, 47] (s.drop 2) with
  | none => exact FD.ok_bad _ _
  | some i =>
    have := findS_le hf
    rw [List.length_drop] at this
    simp only [List.length_cons, List.length_nil] at this
    exact ⟨hb.take _, by show (s.take (i + 4)).length ≤ _; rw [List.length_take]; omega, by show i + 4 ≤ _; omega⟩
 ·exact FD.ok_none _
theorem numN_le (s : List Nat) : numN s ≤ s.length := by
 have hc1 := countW_le isHex (s.drop 2)
 have hc2 := countW_le isDigit s
 rw [List.length_drop] at hc1
 have hd : deci s ≤ s.length := by
  have hc3 := countW_le isDigit (s.drop (countW isDigit s + 1))
  rw [List.length_drop] at hc3
  unfold deci
  split <;> omega
 have he : expo s (deci s) ≤ s.length := by
  have hc3 := countW_le isDigit (s.drop (expK s (deci s)))
  rw [List.length_drop] at hc3
  unfold expo
  split <;> omega
 unfold numN
 split
 ·rename_i hp
  have hl : 2 ≤ s.length := by
   rcases hp.1 with h | h
   ·exact h.1
   ·exact h.1
  omega
 ·split
  ·omega
  ·exact he
def numD (s : List Nat) : FD := if numN s = 0 then FD.none else ⟨4, s.take (numN s), numN s, 0⟩
theorem numD_v (s : List Nat) : numF s = (numD s).v := by
 unfold numF numD
 split <;> rfl
theorem numD_ok {s : List Nat} (hb : Bytes s) : (numD s).ok s := by
 unfold numD
 split
 ·exact FD.ok_none _
 ·exact ⟨hb.take _, by show (s.take _).length ≤ _; rw [List.length_take]; omega, numN_le s⟩
def eitherD (s : List Nat) : FD := if numN s < nameN s then nameD s else numD s
theorem eitherD_v (s : List Nat) : eitherF s = (eitherD s).v := by
 unfold eitherF eitherD
 split
 ·exact nameD_v s
 ·exact numD_v s
theorem eitherD_ok {s : List Nat} (hb : Bytes s) : (eitherD s).ok s := by
 unfold eitherD
 split
 ·exact nameD_ok hb
 ·exact numD_ok hb
theorem sysN_le : ∀ (f : Nat) (s : List Nat), sysN f s ≤ s.length
 | 0, s => Nat.zero_le _
 | f + 1, s => by
   have h1 := runF_le s
   unfold sysN
   split
   ·have h2 := sysN_le f (s.drop ((runF s).1 + 1))
    rw [List.length_drop] at h2
    omega
   ·exact h1
def sysE (s : List Nat) : Nat := sysN (s.length + 1) (s.drop 2)
def sysD (s : List Nat) : FD := if hasP s [64, 64] then (if sysE s = 0 then FD.bad 191 else ⟨7, lowS ((s.take (2 + sysE s)).drop 2), 2 + sysE s, 0⟩) else FD.none
theorem sysD_v (s : List Nat) : sysF s = (sysD s).v := by
 unfold sysF sysD sysE
 split
 ·split <;> rfl
 ·rfl
theorem sysD_ok {s : List Nat} (hb : Bytes s) : (sysD s).ok s := by
 unfold sysD
 split
 ·rename_i hp
  have hl : 2 ≤ s.length := hasP_len hp
  have h2 := sysN_le (s.length + 1) (s.drop 2)
  rw [List.length_drop] at h2
  split
  ·exact FD.ok_bad _ _
  ·refine ⟨lowS_bytes ((hb.take _).drop 2), ?_, ?_⟩
   ·show (lowS ((s.take (2 + sysE s)).drop 2)).length ≤ _
    simp [lowS]; omega
   ·show 2 + sysE s ≤ _
    unfold sysE; omega
 ·exact FD.ok_none _
theorem tryU_ok {s : List Nat} (h0 : s ≠ []) : ∀ {l : List FD}, (∀ d ∈ l, d.ok (s.drop 1)) → (tryU l).ok s
 | [], _ => FD.ok_bad _ _
 | d :: l, h => by
   have hl : 0 < s.length := List.length_pos_iff.2 h0
   have hd := h d (by simp)
   have h1 := hd.2.1
   have h2 := hd.2.2
   rw [List.length_drop] at h1 h2
   unfold tryU
   split
   ·exact ⟨hd.1, by omega, by omega⟩
   ·split
    ·exact ⟨lowS_bytes hd.1, by show (lowS d.text).length ≤ _; simp [lowS]; omega, by show 1 + d.n ≤ _; omega⟩
    ·exact tryU_ok h0 fun d' hd' => h d' (by simp [hd'])
theorem userD_ok {s : List Nat} (h0 : s ≠ []) (hb : Bytes s) : (userD s).ok s := by
 have hl : 0 < s.length := List.length_pos_iff.2 h0
 unfold userD
 split
 ·split
  ·exact FD.ok_bad _ _
  ·have ht0 : s.drop 1 ≠ [] := fun q => by have := congrArg List.length q; simp at this; omega
   refine tryU_ok h0 fun d hd => ?_
   simp only [List.mem_cons, List.not_mem_nil, or_false] at hd
   rcases hd with rfl | rfl | rfl
   ·exact quotD_ok ht0 (hb.drop 1)
   ·exact textD_ok ht0 (hb.drop 1)
   ·exact nameD_ok (hb.drop 1)
 ·exact FD.ok_none _
theorem trySign_ok {s : List Nat} (hb : Bytes s) : ∀ (l : List (List Nat)), (trySign s l).ok s
 | [] => FD.ok_bad _ _
 | x :: l => by
   unfold trySign
   split
   ·rename_i h
    exact ⟨by show Bytes x; rw [← h.2]; exact hb.take _, h.1, h.1⟩
   ·exact trySign_ok hb l
theorem signD_ok {s : List Nat} (h0 : s ≠ []) (hb : Bytes s) : (signD s).ok s := by
 have hl : 0 < s.length := List.length_pos_iff.2 h0
 unfold signD
 split
 ·exact ⟨fun b hb => by simp at hb, by simp, hl⟩
 ·exact trySign_ok hb _
theorem trySign_pos {s : List Nat} : ∀ {l : List (List Nat)}, (∀ x ∈ l, 0 < x.length) → (trySign s l).e = 0 → 0 < (trySign s l).n
 | [], _, h => by cases h
 | x :: l, hl, h => by
   unfold trySign at h ⊢
   split
   ·exact hl x (by simp)
   ·rename_i hn
    rw [if_neg hn] at h
    exact trySign_pos (fun y hy => hl y (by simp [hy])) h
theorem signD_pos {s : List Nat} (h : (signD s).e = 0) : 0 < (signD s).n := by
 unfold signD at h ⊢
 split
 ·exact Nat.one_pos
 ·rename_i hn
  rw [if_neg hn] at h
  exact trySign_pos dC h
def tryW : List FD → FD
 | [] => FD.none
 | d :: l => if d.e ≠ 0 then d else if 0 < d.n then d else tryW l
def finds (s : List Nat) : List FD := [oddD s, eitherD s, quotD s, textD s, sysD s, userD s, signD s]
def wordD (s : List Nat) : FD := tryW (finds s)
theorem tryW_pos {d : FD} (hd : d.e = 0 → 0 < d.n) : ∀ {l : List FD}, d ∈ l → (tryW l).e = 0 → 0 < (tryW l).n
 | [], h, _ => by cases h
 | d' :: l, h, he => by
   unfold tryW at he ⊢
   split
   ·rename_i h1; rw [if_pos h1] at he; exact absurd he h1
   ·rename_i h1
    rw [if_neg h1] at he
    split
    ·rename_i h2; exact h2
    ·rename_i h2
     rw [if_neg h2] at he
     rcases List.mem_cons.1 h with rfl | hm
     ·exact absurd (hd oM) h2
     ·exact tryW_pos hd hm he
theorem wordD_pos {s : List Nat} (h : (wordD s).e = 0) : 0 < (wordD s).n := tryW_pos (d := signD s) signD_pos (by simp [finds]) h
theorem tryW_ok {s : List Nat} : ∀ {l : List FD}, (∀ d ∈ l, d.ok s) → (tryW l).ok s
 | [], _ => FD.ok_none _
 | d :: l, h => by
   unfold tryW
   split
   ·exact h d (by simp)
   ·split
    ·exact h d (by simp)
    ·exact tryW_ok fun d' hd' => h d' (by simp [hd'])
theorem finds_ok {s : List Nat} (h0 : s ≠ []) (hb : Bytes s) : ∀ d ∈ finds s, d.ok s := by
 intro d hd
 simp only [finds, List.mem_cons, List.not_mem_nil, or_false] at hd
 rcases hd with rfl | rfl | rfl | rfl | rfl | rfl | rfl
 ·exact oddD_ok hb
 ·exact eitherD_ok hb
 ·exact quotD_ok h0 hb
 ·exact textD_ok h0 hb
 ·exact sysD_ok hb
 ·exact userD_ok h0 hb
 ·exact signD_ok h0 hb
theorem wordD_ok {s : List Nat} (h0 : s ≠ []) (hb : Bytes s) : (wordD s).ok s := tryW_ok (finds_ok h0 hb)
theorem passF_le {s : List Nat} (h0 : s ≠ []) : (passF s).1 ≤ s.length := by
 have hl : 0 < s.length := List.length_pos_iff.2 h0
 unfold passF
 split
 ·exact hl
 ·split
  ·cases hf : findB 10 s with
   | none => exact Nat.le_refl _
   | some i => exact (findB_lt hf).1
  ·split
   ·exact Nat.zero_le _
   ·rename_i hp
    have hl : 2 ≤ s.length := hasP_len (p := [47, 42]) (Decidable.byContradiction fun q => hp (.inl q))
    cases hf : findS [42, 47] (s.drop 2) with
    | none => exact Nat.zero_le _
    | some i =>
      have := findS_le hf
      rw [List.length_drop] at this
      simp only [List.length_cons, List.length_nil] at this
      show i + 4 ≤ _
      omega
structure WD where
 kind : Nat
 text : List Nat
 at_ : Nat
def WD.cells (w : WD) : List V := [.int .i64 w.kind, .str w.text, .int .i64 w.at_]
def wcells (l : List WD) : List V := l.flatMap WD.cells
def allR (s : List Nat) : Nat → Nat → List WD → List WD ⊕ (Nat × Nat)
 | 0, _, acc => .inl acc
 | f + 1, p, acc => if p < s.length then
    (if (passF (s.drop p)).2 ≠ 0 then .inr ((passF (s.drop p)).2, p)
    else if 0 < (passF (s.drop p)).1 then allR s f (p + (passF (s.drop p)).1) acc
    else if (wordD (s.drop p)).e ≠ 0 then .inr ((wordD (s.drop p)).e, p)
    else allR s f (p + (wordD (s.drop p)).n) (acc ++ [⟨(wordD (s.drop p)).kind, (wordD (s.drop p)).text, p⟩]))
   else .inl acc
def allF (s : List Nat) : List WD ⊕ (Nat × Nat) := allR s (s.length + 1) 0 []
variable {S : Set0} (hS : StdF S)
include hS
def scanFs : List V := [.func 53 [] [], .func 54 [] [], .func 55 [] [], .func 56 [] [], .func 57 [] [], .func 58 [] [], .func 59 [] []]
theorem find_spec (s : List Nat) (hs : s.length < 2 ^ 26) (hb : Bytes s) (h0 : s ≠ []) (j : Nat) (hj : j < 7) : ∃ (f : FuncId) (d : FD), scanFs[j]? = some (.func f [] []) ∧ (finds s).drop j = d :: (finds s).drop (j + 1) ∧ (∀ h, Pure S.cfg f [.str s] h fun v _ => v = d.v) ∧ d.ok s := by
 have : j = 0 ∨ j = 1 ∨ j = 2 ∨ j = 3 ∨ j = 4 ∨ j = 5 ∨ j = 6 := oM
 rcases this with rfl | rfl | rfl | rfl | rfl | rfl | rfl
 ·exact ⟨53, oddD s, rfl, rfl, fun h => by rw [← oddD_v]; exact odd_spec hS.toStd _ h hs hb, oddD_ok hb⟩
 ·exact ⟨54, eitherD s, rfl, rfl, fun h => by rw [← eitherD_v]; exact either_spec hS.toStd _ h hs hb, eitherD_ok hb⟩
 ·exact ⟨55, quotD s, rfl, rfl, fun h => by rw [← quotD_v]; exact quoted_spec hS.toStd _ h hs hb h0, quotD_ok h0 hb⟩
 ·exact ⟨56, textD s, rfl, rfl, fun h => by rw [← textD_v]; exact text_spec hS.toStd _ h hs hb h0, textD_ok h0 hb⟩
 ·exact ⟨57, sysD s, rfl, rfl, fun h => by rw [← sysD_v]; exact system_spec hS.toStd _ h hs hb, sysD_ok hb⟩
 ·exact ⟨58, userD s, rfl, rfl, fun h => user_spec hS.toStd _ h hs hb h0, userD_ok h0 hb⟩
 ·exact ⟨59, signD s, rfl, rfl, fun h => sign_spec hS _ h h0 hb, signD_ok h0 hb⟩
end
noncomputable section
variable {S : Set0} (hS : StdF S)
def allV (s : List Nat) (n0 : Nat) (h' : H) (v : V) : Prop :=
 if 1048576 < s.length then v = .tuple [.nilslice, .agg [.int .i64 3, .int .i64 (-1)]]
 else match allF s with
  | .inl ws => ∃ l, v = .tuple [l, .agg [.int .i64 0, .int .i64 0]] ∧ Acc n0 h' l (wcells ws) 81 3
  | .inr (e, p) => v = .tuple [.nilslice, .agg [.int .i64 e, .int .i64 p]]
theorem wcells_len (l : List WD) : (wcells l).length = l.length * 3 := by
 induction l with
 | nil => rfl
 | cons w l ih =>
   show (WD.cells w ++ wcells l).length = _
   rw [List.length_append, ih]
   show 3 + _ = (l.length + 1) * 3
   omega
theorem wcells_append (l : List WD) (w : WD) : wcells (l ++ [w]) = wcells l ++ w.cells := by
 simp [wcells]
def AllI (s : List Nat) (h : H) (m : Nat) (env : Env) (h' : H) : Prop :=
 ∃ (p : Nat) (acc : List WD) (l : V) (f : Nat), m = s.length - p ∧ env 0 = .str s ∧ env 3 = .ptr h.nx 0 ∧ env 4 = l ∧ env 5 = .int .i64 p ∧ p ≤ s.length ∧ acc.length ≤ p ∧ Ext h h' ∧ h.nx < h'.nx ∧ h'.get h.nx = some (.cells [.int .i64 0, .int .i64 0] 77 false) ∧ Acc (h.nx + 1) h' l (wcells acc) 81 3 ∧ s.length < p + f ∧ allF s = allR s f p acc
def WordI (s : List Nat) (h : H) (p : Nat) (acc : List WD) (l : V) (b : Nat) (m : Nat) (env : Env) (h' : H) : Prop :=
 ∃ (j : Nat), m = 7 - j ∧ j ≤ 7 ∧ env 0 = .str s ∧ env 3 = .ptr h.nx 0 ∧ env 4 = l ∧ env 5 = .int .i64 p ∧ env 36 = .slice b 0 7 7 ∧ env 37 = .int .i64 7 ∧ env 38 = .int .i64 j ∧ Ext h h' ∧ h.nx < b ∧ b < h'.nx ∧ h'.get h.nx = some (.cells [.int .i64 0, .int .i64 0] 77 false) ∧ h'.get b = some (.cells scanFs 121 false) ∧ Acc (h.nx + 1) h' l (wcells acc) 81 3 ∧ wordD (s.drop p) = tryW ((finds (s.drop p)).drop j)
include hS
theorem all_spec (s : List Nat) (h : H) (hb : Bytes s) (hs : s.length < 2 ^ 63) : Pure S.cfg 19 [.str s] h fun v h' => allV s h.nx h' v := by
 refine inn Tryz.func19 (hS.own _ dC) rfl rfl ?_
 have hx1 : ¬ h.nx = h.nx + 1 := oM
 by_cases hlen : 1048576 < s.length
 ·refine ws1 (cj @Tryz.f19.eq_1 hlen) ?_
  exact ⟨((Ext.refl h).push _).put (Nat.le_refl _) _, by rw [allV, if_pos hlen]⟩
 refine ws1 (cj @Tryz.f19.eq_1 hlen) ?_
 refine run_loop (AllI s h) s.length ⟨0, [], .nilslice, s.length + 1, by refine ws1 hx1 ?_; exact ⟨by simp, (Ext.refl h).push _, by omega, .inl ⟨rfl, rfl⟩, by omega, rfl⟩⟩ ?_
 rintro m env h' ⟨p, acc, l, f, rfl, e0, e3, e4, e5, hp, hacc, hx, hn1, hg, ha, hf, hr⟩
 have hcl := ha.cell.1
 have hic := ha.cell.2
 obtain ⟨f, rfl⟩ : ∃ k, f = k + 1 := ⟨f - 1, by omega⟩
 rw [allR] at hr
 by_cases hpl : p < s.length
 ·rw [if_pos hpl] at hr
  have hd0 : s.drop p ≠ [] := fun q => by have := congrArg List.length q; simp at this; omega
  have hdl : (s.drop p).length < 2 ^ 26 := by rw [List.length_drop]; omega
  have hdb : Bytes (s.drop p) := hb.drop p
  have hple := passF_le hd0
  rw [List.length_drop] at hple
  refine ws1 (cj e0 <| cj e3 <| cj e4 <| cj e5 <| cj hpl <| cj hg <| cj hcl <| cj hic @Tryz.f19.eq_1) ?_
  refine ⟨hp, callF_exact (passed_spec hS.toStd _ _ oM hdb hd0) ?_⟩
  by_cases he : (passF (s.drop p)).2 = 0
  ·rw [if_neg (by simpa using he)] at hr
   by_cases hn : 0 < (passF (s.drop p)).1
   ·rw [if_pos hn] at hr
    refine ws1 (cj e0 <| cj e3 <| cj e4 <| cj e5 <| cj hpl <| cj hg <| cj hcl <| cj hic <| cj he <| cj hn @Tryz.f19.eq_1) ?_
    refine ⟨_, ?_, p + (passF (s.drop p)).1, acc, l, f, rfl, ?_⟩
    ·omega
    ·refine ws1 (cj e0 <| cj e3 <| cj e4 e5) ?_
     exact ⟨by omega, by omega, hx, hn1, hg, ha, by omega, hr⟩
   ·rw [if_neg hn] at hr
    refine ws1 (cj e0 <| cj e3 <| cj e4 <| cj e5 <| cj hpl <| cj hg <| cj hcl <| cj hic <| cj he <| cj hn @Tryz.f19.eq_1) ?_
    have hxb : ¬ h'.nx = h.nx := oM
    refine run_loop (WordI s h p acc l h'.nx) 7 ⟨0, by refine ws1 (cj hxb <| cj (Ne.symm hxb) <| cj e0 <| cj e3 <| cj e4 <| cj e5 <| cj @scanFs.eq_1 hg) ?_; exact ⟨hx.push _, hn1, by omega, ha.push, rfl⟩⟩ ?_
    rintro m env2 h2 ⟨j, rfl, hj, f0, f3, f4, f5, f36, f37, f38, hx2, hb1, hb2, hg2, hgf, ha2, hw⟩
    by_cases hj7 : j < 7
    ·obtain ⟨fn, d, hcf, hdr, hsp, hdo⟩ := find_spec hS (s.drop p) hdl hdb hd0 j hj7
     rw [hdr, tryW] at hw
     refine ws1 (cj f0 <| cj f3 <| cj f4 <| cj f5 <| cj f36 <| cj f37 <| cj f38 <| cj hcl <| cj hic <| cj hgf <| cj hcf <| cj hj7 @Tryz.f19.eq_1) ?_
     refine ⟨hp, callF_pure (hsp h2) ?_⟩
     rintro v h3 hx3 rfl
     have hle := hx3.1
     have hle2 := hx2.1
     have g1 : h3.get h.nx = some (.cells [.int .i64 0, .int .i64 0] 77 false) := by rw [hx3.2 h.nx oM]; exact hg2
     have g2 : h3.get h'.nx = some (.cells scanFs 121 false) := by rw [hx3.2 h'.nx oM]; exact hgf
     have ha3 : Acc (h.nx + 1) h3 l (wcells acc) 81 3 := ha2.stay hle fun k _ hk => hx3.2 k hk
     have n1 : ¬ h.nx = h3.nx := oM
     have n2 : ¬ h'.nx = h3.nx := oM
     have hX : Ext h h3 := hx2.trans hx3
     by_cases hde : d.e = 0
     ·rw [if_neg (by simpa using hde)] at hw
      by_cases hdn : 0 < d.n
      ·rw [if_pos hdn] at hw
       refine ws1 (cj f0 <| cj f3 <| cj f4 <| cj f5 <| cj f36 <| cj f37 <| cj f38 <| cj hcl <| cj hic <| cj hj7 <| cj @FD.v.eq_1 <| cj @foundV.eq_1 <| cj hde <| cj hdn <| cj g1 <| cj g2 <| cj n1 <| cj n2 @Tryz.f19.eq_1) ?_
       refine ⟨.inr oM, .inr oM, draw_by [(3, 7), (4, 7)] kR ?_⟩
       refine ws1 (cj f0 <| cj f3 <| cj f4 <| cj f5 <| cj f36 <| cj f37 <| cj f38 <| cj hcl <| cj hic <| cj hj7 <| cj @FD.v.eq_1 <| cj @foundV.eq_1 <| cj hde <| cj hdn <| cj g1 <| cj g2 <| cj n1 <| cj n2 @Tryz.f19.eq_1) ?_
       have hdn2 := hdo.2.2
       rw [List.length_drop] at hdn2
       have haH := (ha3.stay (Nat.le_succ _) (fun k _ hk => by rw [put_get, if_neg oM, put_get, if_neg oM, push_get, if_neg oM]) : Acc (h.nx + 1) (((h3.push (.cells [.int .i64 0, .str [], .int .i64 0, .int .i64 0, .int .i64 0] 124 false)).put h3.nx (.cells [.int .i64 d.kind, .str d.text, .int .i64 (0 : Nat), .int .i64 d.n, .int .i64 (0 : Nat)] 124 false)).put h3.nx (.cells [.int .i64 d.kind, .str d.text, .int .i64 p, .int .i64 d.n, .int .i64 (0 : Nat)] 124 false)) l (wcells acc) 81 3).push (ob := .cells [.int .i64 d.kind, .str d.text, .int .i64 p] 81 false)
       refine append_accV (sv := l) (n0 := h.nx + 1) (cells := wcells acc) (new := [.int .i64 d.kind, .str d.text, .int .i64 p]) (b2 := h3.nx + 1) (o2 := 0) (n := 1) (m := 1) ?_ ap75 ⟨.slice 81, by kernel_rfl, rfl⟩ haH ?_ ?_ ?_ rfl rfl ?_ dC ?_ ?_ ?_
       ·exact wt1 (cj n1 n2)
       ·exact wt1 (cj n1 n2)
       ·decide
       ·simp +contextual (disch := first | (simp only [fq]; done) | omega) only [wps, fW, reduceLE, reduceLT, reduceLeDiff, UInt8.reduceToNat, ↓reduceIte, reduceEqDiff, reduceAdd, reduceCtorEq, reduceToNat, rdC]
        rfl
       ·rw [wcells_len]
        show acc.length * 3 + 3 ≤ _
        omega
       ·exact fun k hk => by rw [fresh_def]; exact .inl oM
       ·intro v h4 L ha4 hst hL
        have hnl : ∀ k o n m, h3.nx ≤ k → l ≠ .slice k o n m := fun k o n m hk q => by have := (ha3.blk q).2; omega
        have g4 : h4.get h3.nx = some (.cells [.int .i64 d.kind, .str d.text, .int .i64 p, .int .i64 d.n, .int .i64 (0 : Nat)] 124 false) := by
         rw [hst.2 h3.nx (by show h3.nx < h3.nx + 1 + 1; omega) (fun o n m => hnl _ o n m (Nat.le_refl _)), push_get, if_neg (by show ¬ h3.nx = h3.nx + 1; omega), put_get, if_pos rfl]
        refine ws1 (cj f0 <| cj f3 <| cj f4 <| cj f5 <| cj f36 <| cj f37 <| cj f38 <| cj hcl <| cj hic <| cj hj7 <| cj @FD.v.eq_1 <| cj @foundV.eq_1 <| cj hde <| cj hdn <| cj g1 <| cj g2 <| cj g4 <| cj n1 <| cj n2 @Tryz.f19.eq_1) ?_
        refine ⟨fun q hq => ?_, _, ?_, p + d.n, acc ++ [⟨d.kind, d.text, p⟩], v, f, rfl, ?_⟩
        ·have hq : q = (3, 7) ∨ q = (4, 7) := by simpa using hq
         rcases hq with rfl | rfl
         ·exact pair_one rfl rfl (apart_blk fun x hx y hy => by
           have hx := List.mem_singleton.1 hx
           have hy := List.mem_singleton.1 hy
           subst hx hy
           show ¬ h3.nx + 1 = h3.nx
           omega)
         ·exact pair_one rfl rfl (apart_blk fun x hx y hy => by
           have hy := List.mem_singleton.1 hy
           subst hy
           show ¬ blkOf x = h3.nx
           rcases hL x hx with e | e | ⟨_, _, e⟩
           ·omega
           ·have e : h3.nx + 1 + 1 ≤ blkOf x := e
            omega
           ·have := (ha3.blk e).2
            omega)
        ·omega
        ·have hXH : Ext h h4 := StaysBut.ext (n0 := 0) ((((hX.push _).put oM _).put oM _).push _) hst (haH.mono oM)
         have hn4 : h3.nx + 1 + 1 ≤ h4.nx := hst.1
         have gf : h4.get h.nx = some (.cells [.int .i64 0, .int .i64 0] 77 false) := by
          rw [hst.2 h.nx (by show h.nx < h3.nx + 1 + 1; omega) (fun o n m => haH.ne oM), push_get, if_neg (by show ¬ h.nx = h3.nx + 1; omega), put_get, if_neg n1, put_get, if_neg n1, push_get, if_neg n1]
          exact g1
         refine ws1 (cj f0 <| cj f3 <| cj f4 f5) ?_
         refine ⟨by omega, by omega, hXH, by omega, gf, by rw [wcells_append]; exact ha4, by omega, ?_⟩
         rw [hr, if_neg (by rw [hw]; simpa using hde), hw]
       ·show h.nx + 1 ≤ h3.nx + 1 + 1
        omega
      ·rw [if_neg hdn] at hw
       refine ws1 (cj f0 <| cj f3 <| cj f4 <| cj f5 <| cj f36 <| cj f37 <| cj f38 <| cj hcl <| cj hic <| cj hj7 <| cj @FD.v.eq_1 <| cj @foundV.eq_1 <| cj hde <| cj hdn <| cj g1 <| cj g2 <| cj n1 <| cj n2 @Tryz.f19.eq_1) ?_
       refine ⟨.inr oM, _, ?_, j + 1, rfl, ?_⟩
       ·omega
       ·refine ws1 (cj f0 <| cj f3 <| cj f4 <| cj f5 <| cj f36 <| cj f37 <| cj f38 <| cj g1 <| cj g2 <| cj n1 <| cj n2 hdn) ?_
        exact ⟨by omega, (hX.push _).put oM _, by omega, by omega, ha3.stay (Nat.le_succ _) (fun k _ hk => by rw [put_get, if_neg oM, push_get, if_neg oM]), hw⟩
     ·rw [if_pos (by simpa using hde)] at hw
      refine ws1 (cj f0 <| cj f3 <| cj f4 <| cj f5 <| cj f36 <| cj f37 <| cj f38 <| cj hcl <| cj hic <| cj hj7 <| cj @FD.v.eq_1 <| cj @foundV.eq_1 <| cj hde <| cj g1 <| cj g2 <| cj n1 <| cj n2 @Tryz.f19.eq_1) ?_
      refine ⟨.inr oM, draw_by [(1, 5)] kR ?_⟩
      refine ws1 (cj f0 <| cj f3 <| cj f4 <| cj f5 <| cj f36 <| cj f37 <| cj f38 <| cj hcl <| cj hic <| cj hj7 <| cj @FD.v.eq_1 <| cj @foundV.eq_1 <| cj hde <| cj g1 <| cj g2 <| cj n1 <| cj n2 @Tryz.f19.eq_1) ?_
      exact ⟨fun q hq => by
       obtain rfl : q = (1, 5) := by simpa using hq
       exact pair_one rfl rfl (apart_blk fun x hx y hy => by
        have hx := List.mem_singleton.1 hx
        have hy := List.mem_singleton.1 hy
        subst hx hy
        exact fun q => n1 q.symm), ((hX.push _).put oM _).put (Nat.le_refl _) _, by rw [allV, if_neg hlen, hr, if_pos (by rw [hw]; exact hde), hw]⟩
    ·exfalso
     have : j = 7 := oM
     subst this
     rw [hw] at hr
     have h1 := wordD_pos (s := s.drop p) (by rw [hw]; rfl)
     rw [hw] at h1
     exact absurd h1 (Nat.lt_irrefl 0)
  ·rw [if_pos (by simpa using he)] at hr
   refine ws1 (cj e0 <| cj e3 <| cj e4 <| cj e5 <| cj hpl <| cj hg <| cj hcl <| cj hic <| cj he @Tryz.f19.eq_1) ?_
   exact ⟨hx.put (Nat.le_refl _) _, by rw [allV, if_neg hlen, hr]⟩
 ·rw [if_neg hpl] at hr
  refine ws1 (cj e0 <| cj e3 <| cj e4 <| cj e5 <| cj hpl <| cj hg <| cj hcl <| cj hic @Tryz.f19.eq_1) ?_
  exact ⟨hx.put (Nat.le_refl _) _, by
   rw [allV, if_neg hlen, hr]
   exact ⟨l, rfl, (ha.put oM).mono oM⟩⟩
end
end Go.Proofs.YtfgnpegkcmkeaaaGreatDoor.Ad
