/-
  Several texts of one walk, joined.
-/
import Derived.Test.YtcccbbgjmjnagaaProg
import Derived.Test.YtcccbbgjmjnagaaWxZ
import Derived.Test.YtcccbbgjmjnagaaLyQ
import Derived.Test.YtcccbbgjmjnagaaLyR
set_option linter.unusedSimpArgs false
set_option linter.unusedVariables false
set_option linter.defProp false
namespace Go.Proofs.Ytcccbbgjmjnagaa
open Go.Proofs Go.Lx Go.Wx
noncomputable section
theorem ia22 (k o n m : Nat) (kd : IntKind) (i : Int) : indexAddrV Try.prog 22 (.slice k o n m) (.int kd i) = if 0 ≤ i ∧ i < n then some (.ptr k (o + i.toNat * 13)) else none := indexAddr_slice (e := 33) (by kernel_rfl) (by kernel_rfl) k o n m kd i
theorem ty33 : tyR Try.prog 33 = some (13, true) := by kernel_rfl
theorem ze33 : zeroL Try.prog 33 = some [.int .i64 0, .int .u32 0, .str [], .int .u16 0, .int .u16 0, .int .i64 0, .int .u32 0, .bool false, .bool false, .int .u32 0, .int .i64 0, .int .u32 0, .bool false] := by kernel_rfl
theorem sz33 : szT Try.prog 33 = some 13 := by kernel_rfl
theorem fa33_0 (k o : Nat) : fieldAddrV Try.prog 33 (.ptr k o) 0 = some (.ptr k (o + 0)) := by kernel_rfl
theorem ty3 : tyR Try.prog 3 = some (1, false) := by kernel_rfl
theorem fa33_1 (k o : Nat) : fieldAddrV Try.prog 33 (.ptr k o) 1 = some (.ptr k (o + 1)) := by kernel_rfl
theorem fa31_4 (k o : Nat) : fieldAddrV Try.prog 31 (.ptr k o) 4 = some (.ptr k (o + 4)) := by kernel_rfl
theorem fa31_5 (k o : Nat) : fieldAddrV Try.prog 31 (.ptr k o) 5 = some (.ptr k (o + 5)) := by kernel_rfl
theorem ty27 : tyR Try.prog 27 = some (1, false) := by kernel_rfl
theorem ty31 : tyR Try.prog 31 = some (8, true) := by kernel_rfl
theorem bs28_1 (v0_0 v0_1 v0_2 v0_3 v0_4 v0_5 v0_6 v0_7 : V) : buildSliceL Try.prog 28 1 [(0, [v0_0, v0_1, v0_2, v0_3, v0_4, v0_5, v0_6, v0_7])] = some ([v0_0, v0_1, v0_2, v0_3, v0_4, v0_5, v0_6, v0_7], 31) := by kernel_rfl
theorem ap28 : apI Try.prog 28 = some (31, 8, 48) := by kernel_rfl
theorem fa33_3 (k o : Nat) : fieldAddrV Try.prog 33 (.ptr k o) 3 = some (.ptr k (o + 10)) := by kernel_rfl
theorem fa33_4 (k o : Nat) : fieldAddrV Try.prog 33 (.ptr k o) 4 = some (.ptr k (o + 11)) := by kernel_rfl
theorem fa33_2 (k o : Nat) : fieldAddrV Try.prog 33 (.ptr k o) 2 = some (.ptr k (o + 9)) := by kernel_rfl
theorem bu31_4_5 (v4_0 v5_0 : V) : buildV Try.prog 31 [(4, [v4_0]), (5, [v5_0])] = some (.agg [.int .u32 0, .str [], .int .u16 0, .int .u16 0, v4_0, v5_0, .bool false, .bool false]) := by kernel_rfl
theorem fa33_5 (k o : Nat) : fieldAddrV Try.prog 33 (.ptr k o) 5 = some (.ptr k (o + 12)) := by kernel_rfl
theorem ty4 : tyR Try.prog 4 = some (1, false) := by kernel_rfl
theorem ps25 : ptrSz Try.prog 25 = true := by kernel_rfl
theorem bu31_1_4_5 (v1_0 v4_0 v5_0 : V) : buildV Try.prog 31 [(1, [v1_0]), (4, [v4_0]), (5, [v5_0])] = some (.agg [.int .u32 0, v1_0, .int .u16 0, .int .u16 0, v4_0, v5_0, .bool false, .bool false]) := by kernel_rfl
theorem ze31 : zeroL Try.prog 31 = some [.int .u32 0, .str [], .int .u16 0, .int .u16 0, .int .i64 0, .int .u32 0, .bool false, .bool false] := by kernel_rfl
theorem sz31 : szT Try.prog 31 = some 8 := by kernel_rfl
theorem bu31_1 (v1_0 : V) : buildV Try.prog 31 [(1, [v1_0])] = some (.agg [.int .u32 0, v1_0, .int .u16 0, .int .u16 0, .int .i64 0, .int .u32 0, .bool false, .bool false]) := by kernel_rfl
-- eq on type 4
theorem bu55 : buildV Try.prog 55 [] = some (.agg [.bool false, .int .u32 0, .nilmap]) := by kernel_rfl
theorem bs56_2 (v0_0 v1_0 : V) : buildSliceL Try.prog 56 2 [(0, [v0_0]), (1, [v1_0])] = some ([v0_0, v1_0], 25) := by kernel_rfl
theorem ia56 (k o n m : Nat) (kd : IntKind) (i : Int) : indexAddrV Try.prog 56 (.slice k o n m) (.int kd i) = if 0 ≤ i ∧ i < n then some (.ptr k (o + i.toNat * 1)) else none := indexAddr_slice (e := 25) (by kernel_rfl) (by kernel_rfl) k o n m kd i
theorem ty25 : tyR Try.prog 25 = some (1, false) := by kernel_rfl
theorem bu31 : buildV Try.prog 31 [] = some (.agg [.int .u32 0, .str [], .int .u16 0, .int .u16 0, .int .i64 0, .int .u32 0, .bool false, .bool false]) := by kernel_rfl
-- eq on type 31
theorem fa31_1 (k o : Nat) : fieldAddrV Try.prog 31 (.ptr k o) 1 = some (.ptr k (o + 1)) := by kernel_rfl
theorem ty9 : tyR Try.prog 9 = some (1, false) := by kernel_rfl
theorem bu55_0_2 (v0_0 v2_0 : V) : buildV Try.prog 55 [(0, [v0_0]), (2, [v2_0])] = some (.agg [v0_0, .int .u32 0, v2_0]) := by kernel_rfl
theorem ia28 (k o n m : Nat) (kd : IntKind) (i : Int) : indexAddrV Try.prog 28 (.slice k o n m) (.int kd i) = if 0 ≤ i ∧ i < n then some (.ptr k (o + i.toNat * 8)) else none := indexAddr_slice (e := 31) (by kernel_rfl) (by kernel_rfl) k o n m kd i
theorem fa55_0 (k o : Nat) : fieldAddrV Try.prog 55 (.ptr k o) 0 = some (.ptr k (o + 0)) := by kernel_rfl
theorem fa55_2 (k o : Nat) : fieldAddrV Try.prog 55 (.ptr k o) 2 = some (.ptr k (o + 2)) := by kernel_rfl
theorem ty53 : tyR Try.prog 53 = some (1, false) := by kernel_rfl
theorem fa55_1 (k o : Nat) : fieldAddrV Try.prog 55 (.ptr k o) 1 = some (.ptr k (o + 1)) := by kernel_rfl
theorem sz27 : szT Try.prog 27 = some 1 := by kernel_rfl
theorem fa31_0 (k o : Nat) : fieldAddrV Try.prog 31 (.ptr k o) 0 = some (.ptr k (o + 0)) := by kernel_rfl
theorem fa31_6 (k o : Nat) : fieldAddrV Try.prog 31 (.ptr k o) 6 = some (.ptr k (o + 6)) := by kernel_rfl
theorem sz4 : szT Try.prog 4 = some 1 := by kernel_rfl
theorem fa31_7 (k o : Nat) : fieldAddrV Try.prog 31 (.ptr k o) 7 = some (.ptr k (o + 7)) := by kernel_rfl
theorem sz3 : szT Try.prog 3 = some 1 := by kernel_rfl
theorem bu65_0 (v0_0 : V) : buildV Try.prog 65 [(0, [v0_0])] = some (.agg [v0_0, .nilslice, .int .u32 0]) := by kernel_rfl
theorem ia66 (k o n m : Nat) (kd : IntKind) (i : Int) : indexAddrV Try.prog 66 (.slice k o n m) (.int kd i) = if 0 ≤ i ∧ i < n then some (.ptr k (o + i.toNat * 1)) else none := indexAddr_slice (e := 27) (by kernel_rfl) (by kernel_rfl) k o n m kd i
theorem fa65_1 (k o : Nat) : fieldAddrV Try.prog 65 (.ptr k o) 1 = some (.ptr k (o + 1)) := by kernel_rfl
theorem ty28 : tyR Try.prog 28 = some (1, false) := by kernel_rfl
theorem fa65_2 (k o : Nat) : fieldAddrV Try.prog 65 (.ptr k o) 2 = some (.ptr k (o + 2)) := by kernel_rfl
theorem sz28 : szT Try.prog 28 = some 1 := by kernel_rfl
theorem ps48 : ptrSz Try.prog 48 = true := by kernel_rfl
theorem fa65_0 (k o : Nat) : fieldAddrV Try.prog 65 (.ptr k o) 0 = some (.ptr k (o + 0)) := by kernel_rfl
theorem ty66 : tyR Try.prog 66 = some (1, false) := by kernel_rfl
theorem bs66_1 (v0_0 : V) : buildSliceL Try.prog 66 1 [(0, [v0_0])] = some ([v0_0], 27) := by kernel_rfl
theorem ap66 : apI Try.prog 66 = some (27, 1, 4) := by kernel_rfl
theorem sz66 : szT Try.prog 66 = some 1 := by kernel_rfl
theorem ze93 : zeroL Try.prog 93 = some [.int .u64 0] := by kernel_rfl
theorem sz93 : szT Try.prog 93 = some 1 := by kernel_rfl
theorem ze3 : zeroL Try.prog 3 = some [.int .i64 0] := by kernel_rfl
theorem ty93 : tyR Try.prog 93 = some (1, false) := by kernel_rfl
noncomputable def factsT := And.intro @Try.underlying3 <| And.intro @Try.underlying4 <| And.intro @Try.underlying5 <| And.intro @Try.underlying9 <| And.intro @Try.underlying22 <| And.intro @Try.underlying25 <| And.intro @Try.underlying27 <| And.intro @Try.underlying28 <| And.intro @Try.underlying31 <| And.intro @Try.underlying33 <| And.intro @Try.underlying36 <| And.intro @Try.underlying48 <| And.intro @Try.underlying53 <| And.intro @Try.underlying56 <| And.intro @Try.underlying58 <| And.intro @Try.underlying63 <| And.intro @Try.underlying66 <| And.intro @Try.underlying69 <| And.intro @Try.underlying80 <| And.intro @Try.underlying82 <| And.intro @Try.underlying92 <| And.intro @Try.underlying93 <| And.intro @Try.underlying97 <| And.intro @Try.underlying99 <| And.intro @ia22 <| And.intro @ty33 <| And.intro @ze33 <| And.intro @sz33 <| And.intro @fa33_0 <| And.intro @ty3 <| And.intro @fa33_1 <| And.intro @fa31_4 <| And.intro @fa31_5 <| And.intro @ty27 <| And.intro @ty31 <| And.intro @bs28_1 <| And.intro @ap28 <| And.intro @fa33_3 <| And.intro @fa33_4 <| And.intro @fa33_2 <| And.intro @bu31_4_5 <| And.intro @fa33_5 <| And.intro @ty4 <| And.intro @ps25 <| And.intro @bu31_1_4_5 <| And.intro @ze31 <| And.intro @sz31 <| And.intro @bu31_1 <| And.intro @bu55 <| And.intro @bs56_2 <| And.intro @ia56 <| And.intro @ty25 <| And.intro @bu31 <| And.intro @fa31_1 <| And.intro @ty9 <| And.intro @bu55_0_2 <| And.intro @ia28 <| And.intro @fa55_0 <| And.intro @fa55_2 <| And.intro @ty53 <| And.intro @fa55_1 <| And.intro @sz27 <| And.intro @fa31_0 <| And.intro @fa31_6 <| And.intro @sz4 <| And.intro @fa31_7 <| And.intro @sz3 <| And.intro @bu65_0 <| And.intro @ia66 <| And.intro @fa65_1 <| And.intro @ty28 <| And.intro @fa65_2 <| And.intro @sz28 <| And.intro @ps48 <| And.intro @fa65_0 <| And.intro @ty66 <| And.intro @bs66_1 <| And.intro @ap66 <| And.intro @sz66 <| And.intro @ze93 <| And.intro @sz93 <| And.intro @ze3 <| @ty93
end
end Go.Proofs.Ytcccbbgjmjnagaa
set_option linter.unusedSectionVars false
set_option maxRecDepth 10000
namespace Go.Proofs.Ytcccbbgjmjnagaa
open Go.Proofs Go.Lx Go.Wx Go.IntWalk Go.Lx.Srt
noncomputable section
structure Set0 where
  exts : List (FuncId × (List V → M V))
noncomputable def Set0.cfg (S : Set0) : Cfg := { P := Try.prog, lf := 0, gl := .leaf, sum := sums S.exts }
structure StdS (S : Set0) : Prop where
  ownS : ∀ f, f ∈ [60, 70, 54, 65, 55, 62, 61, 59, 56, 58, 57, 69, 68, 71, 66, 53, 64, 67, 52, 49] → sums S.exts f = none
theorem cfgP (S : Set0) : S.cfg.P = Try.prog := rfl
section
variable {c : Cfg} {Ok : Nat → Prop} {env : Env} {h : H} {K : V → H → Fp → Prop}
theorem gOp_no {op : Op} : gOp c Ok False op env h K = K undefV h (.lg []) := by unfold gOp; simp
theorem gOp_yes {op : Op} : gOp c Ok True op env h K = opW c Ok op env h K := by unfold gOp; simp
end
noncomputable def facts := And.intro @cfgP <| And.intro @factsT <| And.intro @gOp_no @gOp_yes
def kv (L : List Int) : List V := L.map (V.int .u32)
def Dat (h : H) (b : Nat) (L : List Int) : Prop := h.get b = some (.cells (kv L) 27 true)
theorem kv_len (L : List Int) : (kv L).length = L.length := List.length_map ..
theorem kv_at {L : List Int} {i : Nat} (h : i < L.length) : (kv L)[i]? = some (.int .u32 (gi L i)) := by unfold kv; rw [List.getElem?_map, gi_some h]; rfl
theorem put_one {α : Type} : ∀ (l : List α) (i : Nat) (v : α), listPut l i [v] = l.set i v
  | [], i, v => by cases i <;> rfl
  | a :: l, 0, v => by unfold listPut; unfold listPut; rfl
  | a :: l, i + 1, v => by
    have := put_one l i v
    unfold listPut
    rw [this]
    rfl
theorem kv_put {L : List Int} {i : Nat} {x : Int} (h : i < L.length) : listPut (kv L) i [.int .u32 x] = kv (L.set i x) := by
  unfold kv
  rw [List.map_set]
  exact put_one _ _ _
theorem kv_swp {L : List Int} {i j : Nat} (hi : i < L.length) (hj : j < L.length) : listPut (listPut (kv L) i [.int .u32 (gi L j)]) j [.int .u32 (gi L i)] = kv (swp L i j) := by
  rw [kv_put hi, kv_put (by rw [List.length_set]; exact hj)]
  rfl
theorem kvp_len {L : List Int} {i : Nat} {x : Int} (h : i < L.length) : (listPut (kv L) i [.int .u32 x]).length = L.length := by rw [kv_put h, kv_len, List.length_set]
theorem swp_dat {h : H} {b : Nat} {M : List Int} {i j : Nat} (hi : i < M.length) (hj : j < M.length) : Dat ((h.put b (.cells (listPut (kv M) i [.int .u32 (gi M j)]) 27 true)).put b (.cells (listPut (listPut (kv M) i [.int .u32 (gi M j)]) j [.int .u32 (gi M i)]) 27 true)) b (swp M i j) := by
  unfold Dat
  rw [put_eq rfl, kv_swp hi hj]
def But (r : Nat) (h h' : H) : Prop := h.nx ≤ h'.nx ∧ ∀ k, k < h.nx → k ≠ r → h'.get k = h.get k
theorem But.refl (r : Nat) (h : H) : But r h h := ⟨Nat.le_refl _, fun _ _ _ => rfl⟩
theorem But.trans {r : Nat} {a b c : H} (x : But r a b) (y : But r b c) : But r a c := ⟨Nat.le_trans x.1 y.1, fun k hk hr => by rw [y.2 k (Nat.lt_of_lt_of_le hk x.1) hr, x.2 k hk hr]⟩
theorem But.of_ext {r : Nat} {a b : H} (x : Ext a b) : But r a b := ⟨x.1, fun k hk _ => x.2 k hk⟩
theorem But.put {r : Nat} {a b : H} (x : But r a b) (o : Ob) : But r a (b.put r o) := ⟨x.1, fun k hk hr => by rw [put_get, if_neg hr, x.2 k hk hr]⟩
variable {S : Set0} (hS : StdS S)
include hS
theorem isnan_spec (x : Int) (h : H) : Exact S.cfg 70 [.int .u32 x] h (bo False) := by
  refine into Try.f70 _ Try.func70 (hS.ownS _ (by decide)) rfl rfl (by kernel_rfl) (by kernel_rfl) ?_
  simp +contextual (disch := first | (simp only [facts, clsL, clsS, clsC, isPtrD]; done) | omega | (simp only [push_nx, put_nx, del_nx]; omega) | (refine Nat.le_antisymm ?_ ?_ <;> simp only [push_nx, put_nx, del_nx] <;> omega) | fail) only [wpy, facts, wpb, cst, wpk, wpl, forall_const, implies_true, false_implies, Int.reduceLE, Int.reduceLT, Nat.reduceLeDiff, UInt8.reduceToNat, ↓reduceIte, Nat.reduceEqDiff, Nat.reduceAdd, reduceCtorEq, Int.reduceToNat, clsL, clsS, clsC, Try.f70]
theorem less_spec (x y : Int) (h : H) : Exact S.cfg 60 [.int .u32 x, .int .u32 y] h (bo (x < y)) := by
  refine into Try.f60 _ Try.func60 (hS.ownS _ (by decide)) rfl rfl (by kernel_rfl) (by kernel_rfl) ?_
  simp +contextual (disch := first | (simp only [facts, clsL, clsS, clsC, isPtrD]; done) | omega | (simp only [push_nx, put_nx, del_nx]; omega) | (refine Nat.le_antisymm ?_ ?_ <;> simp only [push_nx, put_nx, del_nx] <;> omega) | fail) only [wpy, facts, wpb, cst, wpk, wpl, forall_const, implies_true, false_implies, Int.reduceLE, Int.reduceLT, Nat.reduceLeDiff, UInt8.reduceToNat, ↓reduceIte, Nat.reduceEqDiff, Nat.reduceAdd, reduceCtorEq, Int.reduceToNat, clsL, clsS, clsC, Try.f60]
  refine callF_exact (isnan_spec hS x _) ?_
  simp +contextual (disch := first | (simp only [facts, clsL, clsS, clsC, isPtrD]; done) | omega | (simp only [push_nx, put_nx, del_nx]; omega) | (refine Nat.le_antisymm ?_ ?_ <;> simp only [push_nx, put_nx, del_nx] <;> omega) | fail) only [wpy, facts, wpb, cst, wpk, wpl, forall_const, implies_true, false_implies, Int.reduceLE, Int.reduceLT, Nat.reduceLeDiff, UInt8.reduceToNat, ↓reduceIte, Nat.reduceEqDiff, Nat.reduceAdd, reduceCtorEq, Int.reduceToNat, clsL, clsS, clsC, Try.f60]
end
noncomputable section
theorem i64_pred {j : Nat} (h : 0 < j) (h2 : j < 2 ^ 62) : IntKind.i64.wrap ((j : Int) - 1) = ((j - 1 : Nat) : Int) := by rw [i64_in _ (by omega)]; omega
variable {S : Set0} (hS : StdS S)
include hS
theorem ins_spec (b a e : Nat) (L : List Int) (h : H) (ha : a ≤ e) (he : e ≤ L.length) (hn : L.length < 2 ^ 40) (hb : b < h.nx) (hd : Dat h b L) : callW S.cfg (fun k => k = b) 54 [.slice b 0 L.length L.length, .int .i64 a, .int .i64 e] h fun v h' => v = .tuple [] ∧ But b h h' ∧ ∃ L', Dat h' b L' ∧ RP a e L L' ∧ SR a e L' := by
  refine into Try.f54 _ Try.func54 (hS.ownS _ (by decide)) rfl rfl (by kernel_rfl) (by kernel_rfl) ?_
  have z1 : a ≤ 9223372036854775806 := by omega
  simp +contextual (disch := first | (simp only [facts, clsL, clsS, clsC, isPtrD]; done) | omega | (simp only [push_nx, put_nx, del_nx]; omega) | (refine Nat.le_antisymm ?_ ?_ <;> simp only [push_nx, put_nx, del_nx] <;> omega) | fail) only [wpy, facts, wpb, cst, wpk, wpl, forall_const, implies_true, false_implies, Int.reduceLE, Int.reduceLT, Nat.reduceLeDiff, UInt8.reduceToNat, ↓reduceIte, Nat.reduceEqDiff, Nat.reduceAdd, reduceCtorEq, Int.reduceToNat, clsL, clsS, clsC, Try.f54, z1]
  refine run_loop (fun k env h' => ∃ (i : Nat) (M : List Int), k = e + 1 - i ∧ a + 1 ≤ i ∧ i ≤ e + 1 ∧ env 0 = .slice b 0 L.length L.length ∧ env 1 = .int .i64 a ∧ env 2 = .int .i64 e ∧ env 6 = .int .i64 i ∧ But b h h' ∧ Dat h' b M ∧ RP a e L M ∧ SR a i M) (e - a) ⟨a + 1, L, ?_⟩ ?_
  · simp +contextual (disch := first | (simp only [facts, clsL, clsS, clsC, isPtrD]; done) | omega | (simp only [push_nx, put_nx, del_nx]; omega) | (refine Nat.le_antisymm ?_ ?_ <;> simp only [push_nx, put_nx, del_nx] <;> omega) | fail) only [wpy, facts, wpb, cst, wpk, wpl, forall_const, implies_true, false_implies, Int.reduceLE, Int.reduceLT, Nat.reduceLeDiff, UInt8.reduceToNat, ↓reduceIte, Nat.reduceEqDiff, Nat.reduceAdd, reduceCtorEq, Int.reduceToNat, clsL, clsS, clsC]
    exact ⟨by omega, ha, But.refl _ _, hd, RP.refl _ _ _, SR.small (Nat.le_refl _)⟩
  rintro k env h' ⟨i, M, rfl, hi1, hi2, e0, e1, e2, e6, hB, hD, hR, hs⟩
  by_cases hlt : i < e
  · simp +contextual (disch := first | (simp only [facts, clsL, clsS, clsC, isPtrD]; done) | omega | (simp only [push_nx, put_nx, del_nx]; omega) | (refine Nat.le_antisymm ?_ ?_ <;> simp only [push_nx, put_nx, del_nx] <;> omega) | fail) only [wpy, facts, wpb, cst, wpk, wpl, forall_const, implies_true, false_implies, Int.reduceLE, Int.reduceLT, Nat.reduceLeDiff, UInt8.reduceToNat, ↓reduceIte, Nat.reduceEqDiff, Nat.reduceAdd, reduceCtorEq, Int.reduceToNat, clsL, clsS, clsC, Try.f54, e0, e1, e2, e6, hlt]
    refine run_loop (fun k env' h2 => ∃ (j : Nat) (M2 : List Int), k = j ∧ a ≤ j ∧ j ≤ i ∧ env' 0 = .slice b 0 L.length L.length ∧ env' 1 = .int .i64 a ∧ env' 2 = .int .i64 e ∧ env' 6 = .int .i64 i ∧ env' 7 = .int .i64 j ∧ But b h h2 ∧ Dat h2 b M2 ∧ RP a e L M2 ∧ InsI a i j M2) i ⟨i, M, ?_⟩ ?_
    · simp +contextual (disch := first | (simp only [facts, clsL, clsS, clsC, isPtrD]; done) | omega | (simp only [push_nx, put_nx, del_nx]; omega) | (refine Nat.le_antisymm ?_ ?_ <;> simp only [push_nx, put_nx, del_nx] <;> omega) | fail) only [wpy, facts, wpb, cst, wpk, wpl, forall_const, implies_true, false_implies, Int.reduceLE, Int.reduceLT, Nat.reduceLeDiff, UInt8.reduceToNat, ↓reduceIte, Nat.reduceEqDiff, Nat.reduceAdd, reduceCtorEq, Int.reduceToNat, clsL, clsS, clsC, e0, e1, e2, e6]
      exact ⟨by omega, hB, hD, hR, ins_start hs⟩
    rintro j env2 h2 ⟨_, M2, rfl, hj1, hj2, f0, f1, f2, f6, f7, hB2, hD2, hR2, hI⟩
    have hl2 : M2.length = L.length := hR2.len
    have hD2' : h2.get b = some (.cells (kv M2) 27 true) := hD2
    by_cases hja : a < j
    · have k1 := kv_at (L := M2) (i := j) (by omega)
      have k2 := kv_at (L := M2) (i := j - 1) (by omega)
      have p1 := i64_pred (j := j) (by omega) (by omega)
      have q1 : j < L.length := by omega
      have q2 : j - 1 < L.length := by omega
      simp +contextual (disch := first | (simp only [facts, clsL, clsS, clsC, isPtrD]; done) | omega | (simp only [push_nx, put_nx, del_nx]; omega) | (refine Nat.le_antisymm ?_ ?_ <;> simp only [push_nx, put_nx, del_nx] <;> omega) | exact dok (by kernel_rfl)) only [draw_calm, draw_calmA, wpy, facts, wpb, cst, wpk, wpl, forall_const, implies_true, false_implies, Int.reduceLE, Int.reduceLT, Nat.reduceLeDiff, UInt8.reduceToNat, ↓reduceIte, Nat.reduceEqDiff, Nat.reduceAdd, reduceCtorEq, Int.reduceToNat, clsL, clsS, clsC, Try.f54, f0, f1, f2, f6, f7, hja, hD2', k1, k2, p1, q1, q2]
      refine callF_exact (less_spec hS _ _ _) ?_
      by_cases hls : gi M2 j < gi M2 (j - 1)
      · simp +contextual (disch := first | (simp only [facts, clsL, clsS, clsC, isPtrD]; done) | omega | (simp only [push_nx, put_nx, del_nx]; omega) | (refine Nat.le_antisymm ?_ ?_ <;> simp only [push_nx, put_nx, del_nx] <;> omega) | exact dok (by kernel_rfl)) only [draw_calm, draw_calmA, wpy, facts, wpb, cst, wpk, wpl, forall_const, implies_true, false_implies, Int.reduceLE, Int.reduceLT, Nat.reduceLeDiff, UInt8.reduceToNat, ↓reduceIte, Nat.reduceEqDiff, Nat.reduceAdd, reduceCtorEq, Int.reduceToNat, clsL, clsS, clsC, Try.f54, f0, f1, f2, f6, f7, hja, hD2', k1, k2, p1, q1, q2, hls, kv_len, hl2]
        have w1 : j < M2.length := by omega
        have w2 : j - 1 < M2.length := by omega
        exact ⟨by omega, by rw [kvp_len w1]; omega, j - 1, by omega, j - 1, swp M2 j (j - 1), rfl, by omega, by omega, rfl, (hB2.put _).put _, swp_dat w1 w2, hR2.trans (RP.swp (by omega) (by omega) (by omega) (by omega) (by omega)), ins_step hI hja hj2 (by omega) hls⟩
      · simp +contextual (disch := first | (simp only [facts, clsL, clsS, clsC, isPtrD]; done) | omega | (simp only [push_nx, put_nx, del_nx]; omega) | (refine Nat.le_antisymm ?_ ?_ <;> simp only [push_nx, put_nx, del_nx] <;> omega) | exact dok (by kernel_rfl)) only [draw_calm, draw_calmA, wpy, facts, wpb, cst, wpk, wpl, forall_const, implies_true, false_implies, Int.reduceLE, Int.reduceLT, Nat.reduceLeDiff, UInt8.reduceToNat, ↓reduceIte, Nat.reduceEqDiff, Nat.reduceAdd, reduceCtorEq, Int.reduceToNat, clsL, clsS, clsC, Try.f54, f0, f1, f2, f6, f7, hja, hD2', k1, k2, p1, q1, q2, hls]
        exact ⟨e - i, by omega, i + 1, M2, by omega, by omega, by omega, rfl, hB2, hD2, hR2, ins_end hI hj1 hj2 (.inr (by omega))⟩
    · simp +contextual (disch := first | (simp only [facts, clsL, clsS, clsC, isPtrD]; done) | omega | (simp only [push_nx, put_nx, del_nx]; omega) | (refine Nat.le_antisymm ?_ ?_ <;> simp only [push_nx, put_nx, del_nx] <;> omega) | exact dok (by kernel_rfl)) only [draw_calm, draw_calmA, wpy, facts, wpb, cst, wpk, wpl, forall_const, implies_true, false_implies, Int.reduceLE, Int.reduceLT, Nat.reduceLeDiff, UInt8.reduceToNat, ↓reduceIte, Nat.reduceEqDiff, Nat.reduceAdd, reduceCtorEq, Int.reduceToNat, clsL, clsS, clsC, Try.f54, f0, f1, f2, f6, f7, hja]
      exact ⟨e - i, by omega, i + 1, M2, by omega, by omega, by omega, rfl, hB2, hD2, hR2, ins_end hI hj1 hj2 (.inl (by omega))⟩
  · simp +contextual (disch := first | (simp only [facts, clsL, clsS, clsC, isPtrD]; done) | omega | (simp only [push_nx, put_nx, del_nx]; omega) | (refine Nat.le_antisymm ?_ ?_ <;> simp only [push_nx, put_nx, del_nx] <;> omega) | fail) only [wpy, facts, wpb, cst, wpk, wpl, forall_const, implies_true, false_implies, Int.reduceLE, Int.reduceLT, Nat.reduceLeDiff, UInt8.reduceToNat, ↓reduceIte, Nat.reduceEqDiff, Nat.reduceAdd, reduceCtorEq, Int.reduceToNat, clsL, clsS, clsC, Try.f54, e0, e1, e2, e6, hlt]
    exact ⟨hB, M, hD, hR, fun p q w1 w2 w3 => hs p q w1 w2 (by omega)⟩
end
noncomputable section
variable {S : Set0} (hS : StdS S)
include hS
theorem sift_spec (b lo hi f : Nat) (L : List Int) (h : H) (hf : f + hi ≤ L.length) (hn : L.length < 2 ^ 40) (hlo : lo < 2 ^ 40) (hb : b < h.nx) (hd : Dat h b L) (hp : HP f (lo + 1) hi L) : callW S.cfg (fun k => k = b) 65 [.slice b 0 L.length L.length, .int .i64 lo, .int .i64 hi, .int .i64 f] h fun v h' => v = .tuple [] ∧ But b h h' ∧ ∃ L', Dat h' b L' ∧ RP f (f + hi) L L' ∧ HP f lo hi L' := by
  refine into Try.f65 _ Try.func65 (hS.ownS _ (by decide)) rfl rfl (by kernel_rfl) (by kernel_rfl) ?_
  simp +contextual (disch := first | (simp only [facts, clsL, clsS, clsC, isPtrD]; done) | omega | (simp only [push_nx, put_nx, del_nx]; omega) | (refine Nat.le_antisymm ?_ ?_ <;> simp only [push_nx, put_nx, del_nx] <;> omega) | fail) only [wpy, facts, wpb, cst, wpk, wpl, forall_const, implies_true, false_implies, Int.reduceLE, Int.reduceLT, Nat.reduceLeDiff, UInt8.reduceToNat, ↓reduceIte, Nat.reduceEqDiff, Nat.reduceAdd, reduceCtorEq, Int.reduceToNat, clsL, clsS, clsC, Try.f65]
  refine run_loop (fun k env h' => ∃ (r : Nat) (M : List Int), k = hi - r ∧ lo ≤ r ∧ r < 2 ^ 41 ∧ env 0 = .slice b 0 L.length L.length ∧ env 2 = .int .i64 hi ∧ env 3 = .int .i64 f ∧ env 8 = .int .i64 r ∧ But b h h' ∧ Dat h' b M ∧ RP f (f + hi) L M ∧ Hp f lo hi r M) (hi - lo) ⟨lo, L, ?_⟩ ?_
  · simp +contextual (disch := first | (simp only [facts, clsL, clsS, clsC, isPtrD]; done) | omega | (simp only [push_nx, put_nx, del_nx]; omega) | (refine Nat.le_antisymm ?_ ?_ <;> simp only [push_nx, put_nx, del_nx] <;> omega) | fail) only [wpy, facts, wpb, cst, wpk, wpl, forall_const, implies_true, false_implies, Int.reduceLE, Int.reduceLT, Nat.reduceLeDiff, UInt8.reduceToNat, ↓reduceIte, Nat.reduceEqDiff, Nat.reduceAdd, reduceCtorEq, Int.reduceToNat, clsL, clsS, clsC]
    exact ⟨by omega, But.refl _ _, hd, RP.refl _ _ _, sift_start hp⟩
  rintro k env h1 ⟨r, M, rfl, hr1, hr2, e0, e2, e3, e8, hB, hD, hR, hH⟩
  have hl : M.length = L.length := hR.len
  have hD' : h1.get b = some (.cells (kv M) 27 true) := hD
  have z1 : IntKind.i64.wrap (2 * (r : Int)) = ((2 * r : Nat) : Int) := by rw [i64_in _ (by omega)]; omega
  have z2 : 2 * r ≤ 9223372036854775806 := by omega
  have z3 : 2 * r + 1 ≤ 9223372036854775806 := by omega
  by_cases hc : hi ≤ 2 * r + 1
  · simp +contextual (disch := first | (simp only [facts, clsL, clsS, clsC, isPtrD]; done) | omega | (simp only [push_nx, put_nx, del_nx]; omega) | (refine Nat.le_antisymm ?_ ?_ <;> simp only [push_nx, put_nx, del_nx] <;> omega) | fail) only [wpy, facts, wpb, cst, wpk, wpl, forall_const, implies_true, false_implies, Int.reduceLE, Int.reduceLT, Nat.reduceLeDiff, UInt8.reduceToNat, ↓reduceIte, Nat.reduceEqDiff, Nat.reduceAdd, reduceCtorEq, Int.reduceToNat, clsL, clsS, clsC, Try.f65, e0, e2, e3, e8, z1, z2, z3, hc]
    exact ⟨hB, M, hD, hR, sift_end hH fun c q1 q2 => by omega⟩
  have z4 : f ≤ 9223372036854775806 := by omega
  have z5 : f + (2 * r + 1) ≤ 9223372036854775807 := by omega
  have z6 : f + (2 * r + 1) + 1 ≤ 9223372036854775807 := by omega
  have z7 : f + (2 * r + 1 + 1) ≤ 9223372036854775807 := by omega
  have z8 : f + r ≤ 9223372036854775807 := by omega
  have k0 := kv_at (L := M) (i := f + r) (by omega)
  have k1 := kv_at (L := M) (i := f + (2 * r + 1)) (by omega)
  have q0 : f + r < L.length := by omega
  have q1 : f + (2 * r + 1) < L.length := by omega
  by_cases hc2 : 2 * r + 1 + 1 < hi
  · have k2 := kv_at (L := M) (i := f + (2 * r + 1) + 1) (by omega)
    have q2 : f + (2 * r + 1) + 1 < L.length := by omega
    simp +contextual (disch := first | (simp only [facts, clsL, clsS, clsC, isPtrD]; done) | omega | (simp only [push_nx, put_nx, del_nx]; omega) | (refine Nat.le_antisymm ?_ ?_ <;> simp only [push_nx, put_nx, del_nx] <;> omega) | exact dok (by kernel_rfl)) only [draw_calm, draw_calmA, wpy, facts, wpb, cst, wpk, wpl, forall_const, implies_true, false_implies, Int.reduceLE, Int.reduceLT, Nat.reduceLeDiff, UInt8.reduceToNat, ↓reduceIte, Nat.reduceEqDiff, Nat.reduceAdd, reduceCtorEq, Int.reduceToNat, clsL, clsS, clsC, Try.f65, e0, e2, e3, e8, z1, z2, z3, z4, z5, z6, z7, z8, hc, hD', k0, k1, q0, q1, hc2, k2, q2]
    refine callF_exact (less_spec hS _ _ _) ?_
    by_cases hl1 : gi M (f + (2 * r + 1)) < gi M (f + (2 * r + 1) + 1)
    · have k3 := kv_at (L := M) (i := f + (2 * r + 1 + 1)) (by omega)
      have q3 : f + (2 * r + 1 + 1) < L.length := by omega
      have hmx : ∀ d, (d = 2 * r + 1 ∨ d = 2 * r + 2) → d < hi → gi M (f + d) ≤ gi M (f + (2 * r + 1 + 1)) := fun d e1 e2 => by
        rcases e1 with rfl | rfl
        · rw [show f + (2 * r + 1 + 1) = f + (2 * r + 1) + 1 by omega]; omega
        · exact Int.le_refl _
      simp +contextual (disch := first | (simp only [facts, clsL, clsS, clsC, isPtrD]; done) | omega | (simp only [push_nx, put_nx, del_nx]; omega) | (refine Nat.le_antisymm ?_ ?_ <;> simp only [push_nx, put_nx, del_nx] <;> omega) | exact dok (by kernel_rfl)) only [draw_calm, draw_calmA, wpy, facts, wpb, cst, wpk, wpl, forall_const, implies_true, false_implies, Int.reduceLE, Int.reduceLT, Nat.reduceLeDiff, UInt8.reduceToNat, ↓reduceIte, Nat.reduceEqDiff, Nat.reduceAdd, reduceCtorEq, Int.reduceToNat, clsL, clsS, clsC, Try.f65, e0, e2, e3, e8, z1, z2, z3, z4, z5, z6, z7, z8, hc, hD', k0, k1, q0, q1, hc2, k2, q2, hl1, k3, q3]
      refine callF_exact (less_spec hS _ _ _) ?_
      by_cases hls : gi M (f + r) < gi M (f + (2 * r + 1 + 1))
      · simp +contextual (disch := first | (simp only [facts, clsL, clsS, clsC, isPtrD]; done) | omega | (simp only [push_nx, put_nx, del_nx]; omega) | (refine Nat.le_antisymm ?_ ?_ <;> simp only [push_nx, put_nx, del_nx] <;> omega) | exact dok (by kernel_rfl)) only [draw_calm, draw_calmA, wpy, facts, wpb, cst, wpk, wpl, forall_const, implies_true, false_implies, Int.reduceLE, Int.reduceLT, Nat.reduceLeDiff, UInt8.reduceToNat, ↓reduceIte, Nat.reduceEqDiff, Nat.reduceAdd, reduceCtorEq, Int.reduceToNat, clsL, clsS, clsC, Try.f65, e0, e2, e3, e8, z1, z2, z3, z4, z5, z6, z7, z8, hc, hD', k0, k1, q0, q1, hc2, k2, q2, hl1, k3, q3, hls, kv_len, hl]
        have w1 : f + r < M.length := by omega
        have w2 : f + (2 * r + 1 + 1) < M.length := by omega
        exact ⟨by omega, by rw [kvp_len w1]; omega, hi - (2 * r + 1 + 1), by omega, (2 * r + 1 + 1), swp M (f + r) (f + (2 * r + 1 + 1)), rfl, by omega, by omega, rfl, (hB.put _).put _, swp_dat w1 w2, hR.trans (RP.swp (by omega) (by omega) (by omega) (by omega) (by omega)), sift_step hH hr1 (by omega) (by omega) (by omega) hmx hls⟩
      · simp +contextual (disch := first | (simp only [facts, clsL, clsS, clsC, isPtrD]; done) | omega | (simp only [push_nx, put_nx, del_nx]; omega) | (refine Nat.le_antisymm ?_ ?_ <;> simp only [push_nx, put_nx, del_nx] <;> omega) | exact dok (by kernel_rfl)) only [draw_calm, draw_calmA, wpy, facts, wpb, cst, wpk, wpl, forall_const, implies_true, false_implies, Int.reduceLE, Int.reduceLT, Nat.reduceLeDiff, UInt8.reduceToNat, ↓reduceIte, Nat.reduceEqDiff, Nat.reduceAdd, reduceCtorEq, Int.reduceToNat, clsL, clsS, clsC, Try.f65, e0, e2, e3, e8, z1, z2, z3, z4, z5, z6, z7, z8, hc, hD', k0, k1, q0, q1, hc2, k2, q2, hl1, k3, q3, hls]
        exact ⟨hB, M, hD, hR, sift_end hH fun d e1 e2 => by
          have := hmx d e1 e2
          omega⟩
    · have hmx : ∀ d, (d = 2 * r + 1 ∨ d = 2 * r + 2) → d < hi → gi M (f + d) ≤ gi M (f + (2 * r + 1)) := fun d e1 e2 => by
        rcases e1 with rfl | rfl
        · exact Int.le_refl _
        · rw [show f + (2 * r + 2) = f + (2 * r + 1) + 1 by omega]; omega
      simp +contextual (disch := first | (simp only [facts, clsL, clsS, clsC, isPtrD]; done) | omega | (simp only [push_nx, put_nx, del_nx]; omega) | (refine Nat.le_antisymm ?_ ?_ <;> simp only [push_nx, put_nx, del_nx] <;> omega) | exact dok (by kernel_rfl)) only [draw_calm, draw_calmA, wpy, facts, wpb, cst, wpk, wpl, forall_const, implies_true, false_implies, Int.reduceLE, Int.reduceLT, Nat.reduceLeDiff, UInt8.reduceToNat, ↓reduceIte, Nat.reduceEqDiff, Nat.reduceAdd, reduceCtorEq, Int.reduceToNat, clsL, clsS, clsC, Try.f65, e0, e2, e3, e8, z1, z2, z3, z4, z5, z6, z7, z8, hc, hD', k0, k1, q0, q1, hc2, k2, q2, hl1]
      refine callF_exact (less_spec hS _ _ _) ?_
      by_cases hls : gi M (f + r) < gi M (f + (2 * r + 1))
      · simp +contextual (disch := first | (simp only [facts, clsL, clsS, clsC, isPtrD]; done) | omega | (simp only [push_nx, put_nx, del_nx]; omega) | (refine Nat.le_antisymm ?_ ?_ <;> simp only [push_nx, put_nx, del_nx] <;> omega) | exact dok (by kernel_rfl)) only [draw_calm, draw_calmA, wpy, facts, wpb, cst, wpk, wpl, forall_const, implies_true, false_implies, Int.reduceLE, Int.reduceLT, Nat.reduceLeDiff, UInt8.reduceToNat, ↓reduceIte, Nat.reduceEqDiff, Nat.reduceAdd, reduceCtorEq, Int.reduceToNat, clsL, clsS, clsC, Try.f65, e0, e2, e3, e8, z1, z2, z3, z4, z5, z6, z7, z8, hc, hD', k0, k1, q0, q1, hc2, k2, q2, hl1, hls, kv_len, hl]
        have w1 : f + r < M.length := by omega
        have w2 : f + (2 * r + 1) < M.length := by omega
        exact ⟨by omega, by rw [kvp_len w1]; omega, hi - (2 * r + 1), by omega, (2 * r + 1), swp M (f + r) (f + (2 * r + 1)), rfl, by omega, by omega, rfl, (hB.put _).put _, swp_dat w1 w2, hR.trans (RP.swp (by omega) (by omega) (by omega) (by omega) (by omega)), sift_step hH hr1 (by omega) (by omega) (by omega) hmx hls⟩
      · simp +contextual (disch := first | (simp only [facts, clsL, clsS, clsC, isPtrD]; done) | omega | (simp only [push_nx, put_nx, del_nx]; omega) | (refine Nat.le_antisymm ?_ ?_ <;> simp only [push_nx, put_nx, del_nx] <;> omega) | exact dok (by kernel_rfl)) only [draw_calm, draw_calmA, wpy, facts, wpb, cst, wpk, wpl, forall_const, implies_true, false_implies, Int.reduceLE, Int.reduceLT, Nat.reduceLeDiff, UInt8.reduceToNat, ↓reduceIte, Nat.reduceEqDiff, Nat.reduceAdd, reduceCtorEq, Int.reduceToNat, clsL, clsS, clsC, Try.f65, e0, e2, e3, e8, z1, z2, z3, z4, z5, z6, z7, z8, hc, hD', k0, k1, q0, q1, hc2, k2, q2, hl1, hls]
        exact ⟨hB, M, hD, hR, sift_end hH fun d e1 e2 => by
          have := hmx d e1 e2
          omega⟩
  · have hmx : ∀ d, (d = 2 * r + 1 ∨ d = 2 * r + 2) → d < hi → gi M (f + d) ≤ gi M (f + (2 * r + 1)) := fun d e1 e2 => by
      rcases e1 with rfl | rfl
      · exact Int.le_refl _
      · omega
    simp +contextual (disch := first | (simp only [facts, clsL, clsS, clsC, isPtrD]; done) | omega | (simp only [push_nx, put_nx, del_nx]; omega) | (refine Nat.le_antisymm ?_ ?_ <;> simp only [push_nx, put_nx, del_nx] <;> omega) | exact dok (by kernel_rfl)) only [draw_calm, draw_calmA, wpy, facts, wpb, cst, wpk, wpl, forall_const, implies_true, false_implies, Int.reduceLE, Int.reduceLT, Nat.reduceLeDiff, UInt8.reduceToNat, ↓reduceIte, Nat.reduceEqDiff, Nat.reduceAdd, reduceCtorEq, Int.reduceToNat, clsL, clsS, clsC, Try.f65, e0, e2, e3, e8, z1, z2, z3, z4, z5, z6, z7, z8, hc, hD', k0, k1, q0, q1, hc2]
    refine callF_exact (less_spec hS _ _ _) ?_
    by_cases hls : gi M (f + r) < gi M (f + (2 * r + 1))
    · simp +contextual (disch := first | (simp only [facts, clsL, clsS, clsC, isPtrD]; done) | omega | (simp only [push_nx, put_nx, del_nx]; omega) | (refine Nat.le_antisymm ?_ ?_ <;> simp only [push_nx, put_nx, del_nx] <;> omega) | exact dok (by kernel_rfl)) only [draw_calm, draw_calmA, wpy, facts, wpb, cst, wpk, wpl, forall_const, implies_true, false_implies, Int.reduceLE, Int.reduceLT, Nat.reduceLeDiff, UInt8.reduceToNat, ↓reduceIte, Nat.reduceEqDiff, Nat.reduceAdd, reduceCtorEq, Int.reduceToNat, clsL, clsS, clsC, Try.f65, e0, e2, e3, e8, z1, z2, z3, z4, z5, z6, z7, z8, hc, hD', k0, k1, q0, q1, hc2, hls, kv_len, hl]
      have w1 : f + r < M.length := by omega
      have w2 : f + (2 * r + 1) < M.length := by omega
      exact ⟨by omega, by rw [kvp_len w1]; omega, hi - (2 * r + 1), by omega, (2 * r + 1), swp M (f + r) (f + (2 * r + 1)), rfl, by omega, by omega, rfl, (hB.put _).put _, swp_dat w1 w2, hR.trans (RP.swp (by omega) (by omega) (by omega) (by omega) (by omega)), sift_step hH hr1 (by omega) (by omega) (by omega) hmx hls⟩
    · simp +contextual (disch := first | (simp only [facts, clsL, clsS, clsC, isPtrD]; done) | omega | (simp only [push_nx, put_nx, del_nx]; omega) | (refine Nat.le_antisymm ?_ ?_ <;> simp only [push_nx, put_nx, del_nx] <;> omega) | exact dok (by kernel_rfl)) only [draw_calm, draw_calmA, wpy, facts, wpb, cst, wpk, wpl, forall_const, implies_true, false_implies, Int.reduceLE, Int.reduceLT, Nat.reduceLeDiff, UInt8.reduceToNat, ↓reduceIte, Nat.reduceEqDiff, Nat.reduceAdd, reduceCtorEq, Int.reduceToNat, clsL, clsS, clsC, Try.f65, e0, e2, e3, e8, z1, z2, z3, z4, z5, z6, z7, z8, hc, hD', k0, k1, q0, q1, hc2, hls]
      exact ⟨hB, M, hD, hR, sift_end hH fun d e1 e2 => by
        have := hmx d e1 e2
        omega⟩
end
noncomputable section
variable {S : Set0} (hS : StdS S)
include hS
theorem heap_spec (b a e : Nat) (L : List Int) (h : H) (ha : a < e) (he : e ≤ L.length) (hn : L.length < 2 ^ 40) (hb : b < h.nx) (hd : Dat h b L) : callW S.cfg (fun k => k = b) 55 [.slice b 0 L.length L.length, .int .i64 a, .int .i64 e] h fun v h' => v = .tuple [] ∧ But b h h' ∧ ∃ L', Dat h' b L' ∧ RP a e L L' ∧ SR a e L' := by
  refine into Try.f55 _ Try.func55 (hS.ownS _ (by decide)) rfl rfl (by kernel_rfl) (by kernel_rfl) ?_
  obtain ⟨n, rfl⟩ : ∃ n, e = a + n := ⟨e - a, by omega⟩
  have z1 : IntKind.i64.wrap (((a + n : Nat) : Int) - (a : Nat)) = ((n : Nat) : Int) := by rw [i64_in _ (by omega)]; omega
  have z2 : IntKind.i64.wrap ((n : Int) - 1) = ((n - 1 : Nat) : Int) := i64_pred (by omega) (by omega)
  have z3 : Int.tdiv ((n - 1 : Nat) : Int) 2 = (((n - 1) / 2 : Nat) : Int) := rfl
  have z4 : IntKind.i64.wrap (((n - 1) / 2 : Nat) : Int) = (((n - 1) / 2 : Nat) : Int) := i64_in _ (by omega)
  have z5 : ((2 : Int) = 0) = False := eq_false (by decide)
  simp +contextual (disch := first | (simp only [facts, clsL, clsS, clsC, isPtrD]; done) | omega | (simp only [push_nx, put_nx, del_nx]; omega) | (refine Nat.le_antisymm ?_ ?_ <;> simp only [push_nx, put_nx, del_nx] <;> omega) | fail) only [wpy, facts, wpb, cst, wpk, wpl, forall_const, implies_true, false_implies, Int.reduceLE, Int.reduceLT, Nat.reduceLeDiff, UInt8.reduceToNat, ↓reduceIte, Nat.reduceEqDiff, Nat.reduceAdd, reduceCtorEq, Int.reduceToNat, clsL, clsS, clsC, Try.f55, z1, z2, z3, z4, z5]
  refine run_loop (fun k env h' => ∃ (m : Nat) (M : List Int), k = m ∧ m ≤ n ∧ env 0 = .slice b 0 L.length L.length ∧ env 6 = .int .i64 a ∧ env 7 = .int .i64 (0 : Nat) ∧ env 8 = .int .i64 n ∧ env 9 = .int .i64 ((m : Int) - 1) ∧ But b h h' ∧ Dat h' b M ∧ RP a (a + n) L M ∧ HP a m n M) ((n - 1) / 2 + 1) ⟨(n - 1) / 2 + 1, L, ?_⟩ ?_
  · simp +contextual (disch := first | (simp only [facts, clsL, clsS, clsC, isPtrD]; done) | omega | (simp only [push_nx, put_nx, del_nx]; omega) | (refine Nat.le_antisymm ?_ ?_ <;> simp only [push_nx, put_nx, del_nx] <;> omega) | fail) only [wpy, facts, wpb, cst, wpk, wpl, forall_const, implies_true, false_implies, Int.reduceLE, Int.reduceLT, Nat.reduceLeDiff, UInt8.reduceToNat, ↓reduceIte, Nat.reduceEqDiff, Nat.reduceAdd, reduceCtorEq, Int.reduceToNat, clsL, clsS, clsC]
    exact ⟨by omega, by omega, But.refl _ _, hd, RP.refl _ _ _, fun k c h1 h2 h3 => by omega⟩
  rintro m env h1 ⟨_, M, rfl, hmn, e0, e6, e7, e8, e9, hB, hD, hR, hH⟩
  have hl : M.length = L.length := hR.len
  cases m with
  | succ i =>
    have e9' : env 9 = .int .i64 (i : Nat) := by rw [e9]; congr 1; omega
    have y1 : IntKind.i64.wrap ((i : Int) - 1) = (i : Int) - 1 := i64_in _ (by omega)
    have hb1 : b < h1.nx := by have := hB.1; omega
    simp +contextual (disch := first | (simp only [facts, clsL, clsS, clsC, isPtrD]; done) | omega | (simp only [push_nx, put_nx, del_nx]; omega) | (refine Nat.le_antisymm ?_ ?_ <;> simp only [push_nx, put_nx, del_nx] <;> omega) | fail) only [wpy, facts, wpb, cst, wpk, wpl, forall_const, implies_true, false_implies, Int.reduceLE, Int.reduceLT, Nat.reduceLeDiff, UInt8.reduceToNat, ↓reduceIte, Nat.reduceEqDiff, Nat.reduceAdd, reduceCtorEq, Int.reduceToNat, clsL, clsS, clsC, Try.f55, e0, e6, e7, e8, e9', y1]
    refine callF_of (hl ▸ sift_spec hS b i n a M h1 (by omega) (by omega) (by omega) hb1 hD hH) (fun k q => by rw [fresh_def]; exact .inr q) ?_
    rintro v h2 ⟨rfl, hB2, M2, hD2, hR2, hH2⟩
    simp +contextual (disch := first | (simp only [facts, clsL, clsS, clsC, isPtrD]; done) | omega | (simp only [push_nx, put_nx, del_nx]; omega) | (refine Nat.le_antisymm ?_ ?_ <;> simp only [push_nx, put_nx, del_nx] <;> omega) | fail) only [wpy, facts, wpb, cst, wpk, wpl, forall_const, implies_true, false_implies, Int.reduceLE, Int.reduceLT, Nat.reduceLeDiff, UInt8.reduceToNat, ↓reduceIte, Nat.reduceEqDiff, Nat.reduceAdd, reduceCtorEq, Int.reduceToNat, clsL, clsS, clsC, Try.f55, e0, e6, e7, e8, e9', y1]
    exact ⟨i, by omega, i, M2, rfl, by omega, rfl, hB.trans hB2, hD2, hR.trans hR2, hH2⟩
  | zero =>
    have e9' : env 9 = .int .i64 (-1) := by rw [e9]; rfl
    simp +contextual (disch := first | (simp only [facts, clsL, clsS, clsC, isPtrD]; done) | omega | (simp only [push_nx, put_nx, del_nx]; omega) | (refine Nat.le_antisymm ?_ ?_ <;> simp only [push_nx, put_nx, del_nx] <;> omega) | fail) only [wpy, facts, wpb, cst, wpk, wpl, forall_const, implies_true, false_implies, Int.reduceLE, Int.reduceLT, Nat.reduceLeDiff, UInt8.reduceToNat, ↓reduceIte, Nat.reduceEqDiff, Nat.reduceAdd, reduceCtorEq, Int.reduceToNat, clsL, clsS, clsC, Try.f55, e0, e6, e7, e8, e9', z2]
    refine run_loop (fun k env' h2 => ∃ (m : Nat) (N : List Int), k = m ∧ m ≤ n ∧ env' 0 = .slice b 0 L.length L.length ∧ env' 6 = .int .i64 a ∧ env' 7 = .int .i64 (0 : Nat) ∧ env' 10 = .int .i64 ((m : Int) - 1) ∧ But b h h2 ∧ Dat h2 b N ∧ RP a (a + n) L N ∧ HS a n m N) n ⟨n, M, ?_⟩ ?_
    · simp +contextual (disch := first | (simp only [facts, clsL, clsS, clsC, isPtrD]; done) | omega | (simp only [push_nx, put_nx, del_nx]; omega) | (refine Nat.le_antisymm ?_ ?_ <;> simp only [push_nx, put_nx, del_nx] <;> omega) | fail) only [wpy, facts, wpb, cst, wpk, wpl, forall_const, implies_true, false_implies, Int.reduceLE, Int.reduceLT, Nat.reduceLeDiff, UInt8.reduceToNat, ↓reduceIte, Nat.reduceEqDiff, Nat.reduceAdd, reduceCtorEq, Int.reduceToNat, clsL, clsS, clsC, e0, e6, e7, e8]
      exact ⟨by omega, hB, hD, hR, hs_start hH⟩
    rintro m env2 h2 ⟨_, N, rfl, hm, f0, f6, f7, f10, hB2, hD2, hR2, hS2⟩
    have hl2 : N.length = L.length := hR2.len
    have hD2' : h2.get b = some (.cells (kv N) 27 true) := hD2
    cases m with
    | succ i =>
      have f10' : env2 10 = .int .i64 (i : Nat) := by rw [f10]; congr 1; omega
      have y1 : IntKind.i64.wrap ((i : Int) - 1) = (i : Int) - 1 := i64_in _ (by omega)
      have w1 : a < N.length := by omega
      have w2 : a + i < N.length := by omega
      have k1 := kv_at w1
      have k2 := kv_at w2
      have q1 : a < L.length := by omega
      have q2 : a + i < L.length := by omega
      have y2 : a + i ≤ 9223372036854775807 := by omega
      have g1 : (listPut (kv N) a [.int .u32 (gi N (a + i))]).length = L.length := by rw [kvp_len w1, hl2]
      simp +contextual (disch := first | (simp only [facts, clsL, clsS, clsC, isPtrD]; done) | omega | (simp only [push_nx, put_nx, del_nx]; omega) | (refine Nat.le_antisymm ?_ ?_ <;> simp only [push_nx, put_nx, del_nx] <;> omega) | exact dok (by kernel_rfl)) only [draw_calm, draw_calmA, wpy, facts, wpb, cst, wpk, wpl, forall_const, implies_true, false_implies, Int.reduceLE, Int.reduceLT, Nat.reduceLeDiff, UInt8.reduceToNat, ↓reduceIte, Nat.reduceEqDiff, Nat.reduceAdd, reduceCtorEq, Int.reduceToNat, clsL, clsS, clsC, Try.f55, f0, f6, f7, f10', y1, y2, k1, k2, q1, q2, hD2', kv_len, hl2, g1]
      obtain ⟨H2, hH2⟩ : ∃ H2, H2 = (h2.put b (Ob.cells (listPut (kv N) a [V.int IntKind.u32 (gi N (a + i))]) 27 true)).put b (Ob.cells (listPut (listPut (kv N) a [V.int IntKind.u32 (gi N (a + i))]) (a + i) [V.int IntKind.u32 (gi N a)]) 27 true) := ⟨_, rfl⟩
      have hDs : Dat H2 b (swp N a (a + i)) := by rw [hH2]; exact swp_dat w1 w2
      have hBs : But b h2 H2 := by rw [hH2]; exact ((But.refl _ _).put _).put _
      rw [← hH2]
      clear hH2
      obtain ⟨s1, s2, s3⟩ := hs_swap hS2 hm (by omega : a + n ≤ N.length)
      have hsl : (swp N a (a + i)).length = L.length := by rw [swp_len, hl2]
      have hbs : b < H2.nx := by have := hB2.1; have := hBs.1; omega
      refine ⟨by omega, by omega, ?_⟩
      refine callF_of (hsl ▸ sift_spec hS b 0 i a (swp N a (a + i)) H2 (by omega) (by omega) (by omega) hbs hDs s1) (fun k q => by rw [fresh_def]; exact .inr q) ?_
      rintro v h3 ⟨rfl, hB3, N3, hD3, hR3, hH3⟩
      simp +contextual (disch := first | (simp only [facts, clsL, clsS, clsC, isPtrD]; done) | omega | (simp only [push_nx, put_nx, del_nx]; omega) | (refine Nat.le_antisymm ?_ ?_ <;> simp only [push_nx, put_nx, del_nx] <;> omega) | fail) only [wpy, facts, wpb, cst, wpk, wpl, forall_const, implies_true, false_implies, Int.reduceLE, Int.reduceLT, Nat.reduceLeDiff, UInt8.reduceToNat, ↓reduceIte, Nat.reduceEqDiff, Nat.reduceAdd, reduceCtorEq, Int.reduceToNat, clsL, clsS, clsC, Try.f55, f0, f6, f7, f10', y1]
      exact ⟨i, by omega, i, N3, rfl, by omega, rfl, hB2.trans (hBs.trans hB3), hD3, hR2.trans ((RP.swp (by omega) (by omega) (by omega) (by omega) (by omega)).trans (hR3.wide (Nat.le_refl _) (by omega))), hs_sift hH3 hR3 (by omega) s2 s3⟩
    | zero =>
      have f10' : env2 10 = .int .i64 (-1) := by rw [f10]; rfl
      simp +contextual (disch := first | (simp only [facts, clsL, clsS, clsC, isPtrD]; done) | omega | (simp only [push_nx, put_nx, del_nx]; omega) | (refine Nat.le_antisymm ?_ ?_ <;> simp only [push_nx, put_nx, del_nx] <;> omega) | fail) only [wpy, facts, wpb, cst, wpk, wpl, forall_const, implies_true, false_implies, Int.reduceLE, Int.reduceLT, Nat.reduceLeDiff, UInt8.reduceToNat, ↓reduceIte, Nat.reduceEqDiff, Nat.reduceAdd, reduceCtorEq, Int.reduceToNat, clsL, clsS, clsC, Try.f55, f0, f6, f7, f10']
      exact ⟨hB2, N, hD2, hR2, hs_end hS2⟩
end
noncomputable section
section
variable {c : Cfg} {Ok : Nat → Prop} {k : List Kt} {Q : Ex → Env → H → Prop} {env : Env} {h : H}
theorem run_loop_cut {a b : Code} {i : Nat} (R : Env → H → Prop) (h1 : run c Ok (.blk i :: .lp R :: k) (.loop a) env h Q) (h2 : ∀ env' h', R env' h' → run c Ok k b env' h' Q) : run c Ok (.blk i :: .seq b :: k) (.loop a) env h Q := by
  rw [← run_block]
  refine run_cut R ?_ h2
  rw [run_block]
  exact h1
theorem run_loop_end {a : Code} {i : Nat} (R : Env → H → Prop) (h1 : run c Ok (.blk i :: .lp R :: k) (.loop a) env h Q) (h2 : ∀ env' h', R env' h' → kont c Ok k Q .normal env' h') : run c Ok (.blk i :: k) (.loop a) env h Q := by
  have e : ∀ ex env h, kont c Ok (.seq .skip :: k) Q ex env h = kont c Ok k Q ex env h := fun ex env h => by cases ex <;> rfl
  have e2 : kont c Ok (.blk i :: .seq .skip :: k) Q = kont c Ok (.blk i :: k) Q := by
    funext ex env h
    cases ex with
    | normal => exact e .normal env h
    | exit j => exact e (bif Nat.beq j i then .normal else .exit j) env h
    | ret => exact e .ret env h
    | goto l => exact e (.goto l) env h
  have h3 := run_loop_cut (b := .skip) R h1 h2
  unfold run at h3 ⊢
  rw [e2] at h3
  exact h3
end
variable {S : Set0} (hS : StdS S)
include hS
theorem rev_spec (b a e : Nat) (L : List Int) (h : H) (ha : a < e) (he : e ≤ L.length) (hn : L.length < 2 ^ 40) (hb : b < h.nx) (hd : Dat h b L) : callW S.cfg (fun k => k = b) 58 [.slice b 0 L.length L.length, .int .i64 a, .int .i64 e] h fun v h' => v = .tuple [] ∧ But b h h' ∧ ∃ L', Dat h' b L' ∧ RP a e L L' := by
  refine into Try.f58 _ Try.func58 (hS.ownS _ (by decide)) rfl rfl (by kernel_rfl) (by kernel_rfl) ?_
  have z1 : IntKind.i64.wrap ((e : Int) - 1) = ((e - 1 : Nat) : Int) := i64_pred (by omega) (by omega)
  simp +contextual (disch := first | (simp only [facts, clsL, clsS, clsC, isPtrD]; done) | omega | (simp only [push_nx, put_nx, del_nx]; omega) | (refine Nat.le_antisymm ?_ ?_ <;> simp only [push_nx, put_nx, del_nx] <;> omega) | fail) only [wpy, facts, wpb, cst, wpk, wpl, forall_const, implies_true, false_implies, Int.reduceLE, Int.reduceLT, Nat.reduceLeDiff, UInt8.reduceToNat, ↓reduceIte, Nat.reduceEqDiff, Nat.reduceAdd, reduceCtorEq, Int.reduceToNat, clsL, clsS, clsC, Try.f58, z1]
  refine run_loop (fun k env h' => ∃ (i j : Nat) (M : List Int), k = j ∧ a ≤ i ∧ i ≤ e ∧ j < e ∧ env 0 = .slice b 0 L.length L.length ∧ env 6 = .int .i64 i ∧ env 7 = .int .i64 j ∧ But b h h' ∧ Dat h' b M ∧ RP a e L M) (e - 1) ⟨a, e - 1, L, ?_⟩ ?_
  · simp +contextual (disch := first | (simp only [facts, clsL, clsS, clsC, isPtrD]; done) | omega | (simp only [push_nx, put_nx, del_nx]; omega) | (refine Nat.le_antisymm ?_ ?_ <;> simp only [push_nx, put_nx, del_nx] <;> omega) | fail) only [wpy, facts, wpb, cst, wpk, wpl, forall_const, implies_true, false_implies, Int.reduceLE, Int.reduceLT, Nat.reduceLeDiff, UInt8.reduceToNat, ↓reduceIte, Nat.reduceEqDiff, Nat.reduceAdd, reduceCtorEq, Int.reduceToNat, clsL, clsS, clsC]
    exact ⟨by omega, by omega, But.refl _ _, hd, RP.refl _ _ _⟩
  rintro j env h1 ⟨i, _, M, rfl, hi1, hi2, hj, e0, e6, e7, hB, hD, hR⟩
  have hl : M.length = L.length := hR.len
  have hD' : h1.get b = some (.cells (kv M) 27 true) := hD
  by_cases hij : i < j
  · have w1 : i < M.length := by omega
    have w2 : j < M.length := by omega
    have k1 := kv_at w1
    have k2 := kv_at w2
    have q1 : i < L.length := by omega
    have q2 : j < L.length := by omega
    have g1 : (listPut (kv M) i [.int .u32 (gi M j)]).length = L.length := by rw [kvp_len w1, hl]
    have p1 := i64_pred (j := j) (by omega) (by omega)
    have y1 : i ≤ 9223372036854775806 := by omega
    simp +contextual (disch := first | (simp only [facts, clsL, clsS, clsC, isPtrD]; done) | omega | (simp only [push_nx, put_nx, del_nx]; omega) | (refine Nat.le_antisymm ?_ ?_ <;> simp only [push_nx, put_nx, del_nx] <;> omega) | exact dok (by kernel_rfl)) only [draw_calm, draw_calmA, wpy, facts, wpb, cst, wpk, wpl, forall_const, implies_true, false_implies, Int.reduceLE, Int.reduceLT, Nat.reduceLeDiff, UInt8.reduceToNat, ↓reduceIte, Nat.reduceEqDiff, Nat.reduceAdd, reduceCtorEq, Int.reduceToNat, clsL, clsS, clsC, Try.f58, e0, e6, e7, hij, k1, k2, q1, q2, g1, p1, y1, hD', kv_len, hl]
    exact ⟨by omega, by omega, j - 1, by omega, i + 1, j - 1, swp M i j, rfl, by omega, by omega, by omega, rfl, rfl, (hB.put _).put _, swp_dat w1 w2, hR.trans (RP.swp (by omega) (by omega) (by omega) (by omega) (by omega))⟩
  · simp +contextual (disch := first | (simp only [facts, clsL, clsS, clsC, isPtrD]; done) | omega | (simp only [push_nx, put_nx, del_nx]; omega) | (refine Nat.le_antisymm ?_ ?_ <;> simp only [push_nx, put_nx, del_nx] <;> omega) | fail) only [wpy, facts, wpb, cst, wpk, wpl, forall_const, implies_true, false_implies, Int.reduceLE, Int.reduceLT, Nat.reduceLeDiff, UInt8.reduceToNat, ↓reduceIte, Nat.reduceEqDiff, Nat.reduceAdd, reduceCtorEq, Int.reduceToNat, clsL, clsS, clsC, Try.f58, e0, e6, e7, hij]
    exact ⟨hB, M, hD, hR⟩
set_option maxHeartbeats 1000000 in
theorem part_spec (b a e p : Nat) (L : List Int) (h : H) (ha : a ≤ p) (hpe : p < e) (he : e ≤ L.length) (hn : L.length < 2 ^ 40) (hb : b < h.nx) (hd : Dat h b L) : callW S.cfg (fun k => k = b) 62 [.slice b 0 L.length L.length, .int .i64 a, .int .i64 e, .int .i64 p] h fun v h' => ∃ (m : Nat) (q : Prop), v = .tuple [.int .i64 m, bo q] ∧ But b h h' ∧ a ≤ m ∧ m < e ∧ ∃ L', Dat h' b L' ∧ RP a e L L' ∧ Split a e m L' := by
  refine into Try.f62 _ Try.func62 (hS.ownS _ (by decide)) rfl rfl (by kernel_rfl) (by kernel_rfl) ?_
  have hd' : h.get b = some (.cells (kv L) 27 true) := hd
  have w1 : a < L.length := by omega
  have w2 : p < L.length := by omega
  have s1 := kv_at w1
  have s2 := kv_at w2
  have t1 : a < L.length := by omega
  have t2 : p < L.length := by omega
  have t3 : (listPut (kv L) (a) [.int .u32 (gi L (p))]).length = L.length := (kvp_len w1).trans (by omega)
  have y0 : a ≤ 9223372036854775806 := by omega
  have y1 := i64_pred (j := e) (by omega) (by omega)
  simp +contextual (disch := first | (simp only [facts, clsL, clsS, clsC, isPtrD]; done) | omega | (simp only [push_nx, put_nx, del_nx]; omega) | (refine Nat.le_antisymm ?_ ?_ <;> simp only [push_nx, put_nx, del_nx] <;> omega) | exact dok (by kernel_rfl)) only [draw_calm, draw_calmA, wpy, facts, wpb, cst, wpk, wpl, forall_const, implies_true, false_implies, Int.reduceLE, Int.reduceLT, Nat.reduceLeDiff, UInt8.reduceToNat, ↓reduceIte, Nat.reduceEqDiff, Nat.reduceAdd, reduceCtorEq, Int.reduceToNat, clsL, clsS, clsC, Try.f62, s1, s2, t1, t2, t3, hd', kv_len, y0, y1]
  refine ⟨by omega, by omega, ?_⟩
  obtain ⟨H0, hH0⟩ : ∃ H0, H0 = (h.put b (Ob.cells (listPut (kv L) a [V.int IntKind.u32 (gi L p)]) 27 true)).put b (Ob.cells (listPut (listPut (kv L) a [V.int IntKind.u32 (gi L p)]) p [V.int IntKind.u32 (gi L a)]) 27 true) := ⟨_, rfl⟩
  rw [← hH0]
  have hD : Dat H0 b (swp L a p) := by rw [hH0]; exact swp_dat w1 w2
  have hB : But b h H0 := by rw [hH0]; exact ((But.refl _ _).put _).put _
  have hR : RP a e L (swp L a p) := RP.swp (Nat.le_refl _) (by omega) ha hpe he
  clear hH0 s1 s2 t3 w1 w2 t1 t2
  obtain ⟨x, hx⟩ : ∃ x, x = gi (swp L a p) a := ⟨_, rfl⟩
  obtain ⟨i0, hi0⟩ : ∃ i0, i0 = a + 1 := ⟨_, rfl⟩
  obtain ⟨j0, hj0⟩ : ∃ j0, j0 = e - 1 := ⟨_, rfl⟩
  rw [← hj0, ← hi0]
  have hP : PI a e i0 j0 x (swp L a p) := ⟨hx.symm, fun k q1 q2 => by omega, fun k q1 q2 => by omega⟩
  generalize swp L a p = M at *
  have hl : M.length = L.length := hR.len
  refine run_loop_cut (fun E H => ∃ i : Nat, i0 ≤ i ∧ i ≤ j0 + 1 ∧ E 0 = .slice b 0 L.length L.length ∧ E 1 = .int .i64 a ∧ E 10 = .int .i64 i ∧ E 11 = .int .i64 j0 ∧ But b h H ∧ Dat H b M ∧ PI a e i j0 x M ∧ (j0 < i ∨ x ≤ gi M i)) ?_ ?_
  · refine run_loop (fun k E H => ∃ i : Nat, k = j0 + 1 - i ∧ i0 ≤ i ∧ i ≤ j0 + 1 ∧ E 0 = .slice b 0 L.length L.length ∧ E 1 = .int .i64 a ∧ E 10 = .int .i64 i ∧ E 11 = .int .i64 j0 ∧ But b h H ∧ Dat H b M ∧ PI a e i j0 x M) (j0 + 1 - i0) ⟨i0, ?_⟩ ?_
    · simp +contextual (disch := first | (simp only [facts, clsL, clsS, clsC, isPtrD]; done) | omega | (simp only [push_nx, put_nx, del_nx]; omega) | (refine Nat.le_antisymm ?_ ?_ <;> simp only [push_nx, put_nx, del_nx] <;> omega) | fail) only [wpy, facts, wpb, cst, wpk, wpl, forall_const, implies_true, false_implies, Int.reduceLE, Int.reduceLT, Nat.reduceLeDiff, UInt8.reduceToNat, ↓reduceIte, Nat.reduceEqDiff, Nat.reduceAdd, reduceCtorEq, Int.reduceToNat, clsL, clsS, clsC]
      exact ⟨by omega, hB, hD, hP⟩
    rintro k3 E3 H3 ⟨i, rfl, c1, c2, g0, g1, gI, gJ, hB3, hD3, hP3⟩
    have hD3' : H3.get b = some (.cells (kv M) 27 true) := hD3
    by_cases hle : i ≤ j0
    · have u1 : i < M.length := by omega
      have u2 : a < M.length := by omega
      have k1 := kv_at u1
      have k2 := kv_at u2
      have v1 : i < L.length := by omega
      have v2 : a < L.length := by omega
      rw [hP3.piv] at k2
      have y1 : i ≤ 9223372036854775806 := by omega
      simp +contextual (disch := first | (simp only [facts, clsL, clsS, clsC, isPtrD]; done) | omega | (simp only [push_nx, put_nx, del_nx]; omega) | (refine Nat.le_antisymm ?_ ?_ <;> simp only [push_nx, put_nx, del_nx] <;> omega) | exact dok (by kernel_rfl)) only [draw_calm, draw_calmA, wpy, facts, wpb, cst, wpk, wpl, forall_const, implies_true, false_implies, Int.reduceLE, Int.reduceLT, Nat.reduceLeDiff, UInt8.reduceToNat, ↓reduceIte, Nat.reduceEqDiff, Nat.reduceAdd, reduceCtorEq, Int.reduceToNat, clsL, clsS, clsC, Try.f62, g0, g1, gI, gJ, hle, k1, k2, v1, v2, y1, hD3']
      refine callF_exact (less_spec hS _ _ _) ?_
      by_cases hls : gi M i < x
      · simp +contextual (disch := first | (simp only [facts, clsL, clsS, clsC, isPtrD]; done) | omega | (simp only [push_nx, put_nx, del_nx]; omega) | (refine Nat.le_antisymm ?_ ?_ <;> simp only [push_nx, put_nx, del_nx] <;> omega) | exact dok (by kernel_rfl)) only [draw_calm, draw_calmA, wpy, facts, wpb, cst, wpk, wpl, forall_const, implies_true, false_implies, Int.reduceLE, Int.reduceLT, Nat.reduceLeDiff, UInt8.reduceToNat, ↓reduceIte, Nat.reduceEqDiff, Nat.reduceAdd, reduceCtorEq, Int.reduceToNat, clsL, clsS, clsC, Try.f62, g0, g1, gI, gJ, hle, k1, k2, v1, v2, y1, hD3', hls]
        exact ⟨j0 + 1 - (i + 1), by omega, i + 1, rfl, by omega, by omega, rfl, hB3, hD3, hP3.piv, fun k q1 q2 => by
          by_cases hk : k = i
          · rw [hk]; exact hls
          · exact hP3.lt k q1 (by omega), hP3.ge⟩
      · simp +contextual (disch := first | (simp only [facts, clsL, clsS, clsC, isPtrD]; done) | omega | (simp only [push_nx, put_nx, del_nx]; omega) | (refine Nat.le_antisymm ?_ ?_ <;> simp only [push_nx, put_nx, del_nx] <;> omega) | exact dok (by kernel_rfl)) only [draw_calm, draw_calmA, wpy, facts, wpb, cst, wpk, wpl, forall_const, implies_true, false_implies, Int.reduceLE, Int.reduceLT, Nat.reduceLeDiff, UInt8.reduceToNat, ↓reduceIte, Nat.reduceEqDiff, Nat.reduceAdd, reduceCtorEq, Int.reduceToNat, clsL, clsS, clsC, Try.f62, g0, g1, gI, gJ, hle, k1, k2, v1, v2, y1, hD3', hls]
        exact ⟨i, by omega, by omega, rfl, hB3, hD3, hP3, .inr (by omega)⟩
    · simp +contextual (disch := first | (simp only [facts, clsL, clsS, clsC, isPtrD]; done) | omega | (simp only [push_nx, put_nx, del_nx]; omega) | (refine Nat.le_antisymm ?_ ?_ <;> simp only [push_nx, put_nx, del_nx] <;> omega) | exact dok (by kernel_rfl)) only [draw_calm, draw_calmA, wpy, facts, wpb, cst, wpk, wpl, forall_const, implies_true, false_implies, Int.reduceLE, Int.reduceLT, Nat.reduceLeDiff, UInt8.reduceToNat, ↓reduceIte, Nat.reduceEqDiff, Nat.reduceAdd, reduceCtorEq, Int.reduceToNat, clsL, clsS, clsC, Try.f62, g0, g1, gI, gJ, hle]
      exact ⟨i, by omega, by omega, rfl, hB3, hD3, hP3, .inl (by omega)⟩
  rintro E4 H4 ⟨i, c1, c2, g0, g1, gI, gJ, hB4, hD4, hP4, hstop⟩
  simp +contextual (disch := first | (simp only [facts, clsL, clsS, clsC, isPtrD]; done) | omega | (simp only [push_nx, put_nx, del_nx]; omega) | (refine Nat.le_antisymm ?_ ?_ <;> simp only [push_nx, put_nx, del_nx] <;> omega) | fail) only [wpy, facts, wpb, cst, wpk, wpl, forall_const, implies_true, false_implies, Int.reduceLE, Int.reduceLT, Nat.reduceLeDiff, UInt8.reduceToNat, ↓reduceIte, Nat.reduceEqDiff, Nat.reduceAdd, reduceCtorEq, Int.reduceToNat, clsL, clsS, clsC, Try.f62]
  refine run_loop_cut (fun E H => ∃ j : Nat, i ≤ j + 1 ∧ j ≤ j0 ∧ E 0 = .slice b 0 L.length L.length ∧ E 1 = .int .i64 a ∧ E 10 = .int .i64 i ∧ E 11 = .int .i64 j ∧ But b h H ∧ Dat H b M ∧ PI a e i j x M ∧ (j < i ∨ gi M j < x)) ?_ ?_
  · refine run_loop (fun k E H => ∃ j : Nat, k = j ∧ i ≤ j + 1 ∧ j ≤ j0 ∧ E 0 = .slice b 0 L.length L.length ∧ E 1 = .int .i64 a ∧ E 10 = .int .i64 i ∧ E 11 = .int .i64 j ∧ But b h H ∧ Dat H b M ∧ PI a e i j x M) j0 ⟨j0, ?_⟩ ?_
    · simp +contextual (disch := first | (simp only [facts, clsL, clsS, clsC, isPtrD]; done) | omega | (simp only [push_nx, put_nx, del_nx]; omega) | (refine Nat.le_antisymm ?_ ?_ <;> simp only [push_nx, put_nx, del_nx] <;> omega) | fail) only [wpy, facts, wpb, cst, wpk, wpl, forall_const, implies_true, false_implies, Int.reduceLE, Int.reduceLT, Nat.reduceLeDiff, UInt8.reduceToNat, ↓reduceIte, Nat.reduceEqDiff, Nat.reduceAdd, reduceCtorEq, Int.reduceToNat, clsL, clsS, clsC, g0, g1, gI, gJ]
      exact ⟨by omega, hB4, hD4, hP4⟩
    rintro j E5 H5 ⟨_, rfl, d1, d2, m0, m1, mI, mJ, hB5, hD5, hP5⟩
    have hD5' : H5.get b = some (.cells (kv M) 27 true) := hD5
    by_cases hle : i ≤ j
    · have u1 : j < M.length := by omega
      have u2 : a < M.length := by omega
      have k1 := kv_at u1
      have k2 := kv_at u2
      have v1 : j < L.length := by omega
      have v2 : a < L.length := by omega
      rw [hP5.piv] at k2
      have y1 := i64_pred (j := j) (by omega) (by omega)
      simp +contextual (disch := first | (simp only [facts, clsL, clsS, clsC, isPtrD]; done) | omega | (simp only [push_nx, put_nx, del_nx]; omega) | (refine Nat.le_antisymm ?_ ?_ <;> simp only [push_nx, put_nx, del_nx] <;> omega) | exact dok (by kernel_rfl)) only [draw_calm, draw_calmA, wpy, facts, wpb, cst, wpk, wpl, forall_const, implies_true, false_implies, Int.reduceLE, Int.reduceLT, Nat.reduceLeDiff, UInt8.reduceToNat, ↓reduceIte, Nat.reduceEqDiff, Nat.reduceAdd, reduceCtorEq, Int.reduceToNat, clsL, clsS, clsC, Try.f62, m0, m1, mI, mJ, hle, k1, k2, v1, v2, y1, hD5']
      refine callF_exact (less_spec hS _ _ _) ?_
      by_cases hls : gi M j < x
      · simp +contextual (disch := first | (simp only [facts, clsL, clsS, clsC, isPtrD]; done) | omega | (simp only [push_nx, put_nx, del_nx]; omega) | (refine Nat.le_antisymm ?_ ?_ <;> simp only [push_nx, put_nx, del_nx] <;> omega) | exact dok (by kernel_rfl)) only [draw_calm, draw_calmA, wpy, facts, wpb, cst, wpk, wpl, forall_const, implies_true, false_implies, Int.reduceLE, Int.reduceLT, Nat.reduceLeDiff, UInt8.reduceToNat, ↓reduceIte, Nat.reduceEqDiff, Nat.reduceAdd, reduceCtorEq, Int.reduceToNat, clsL, clsS, clsC, Try.f62, m0, m1, mI, mJ, hle, k1, k2, v1, v2, y1, hD5', hls]
        exact ⟨j, by omega, by omega, rfl, hB5, hD5, hP5, .inr (by omega)⟩
      · simp +contextual (disch := first | (simp only [facts, clsL, clsS, clsC, isPtrD]; done) | omega | (simp only [push_nx, put_nx, del_nx]; omega) | (refine Nat.le_antisymm ?_ ?_ <;> simp only [push_nx, put_nx, del_nx] <;> omega) | exact dok (by kernel_rfl)) only [draw_calm, draw_calmA, wpy, facts, wpb, cst, wpk, wpl, forall_const, implies_true, false_implies, Int.reduceLE, Int.reduceLT, Nat.reduceLeDiff, UInt8.reduceToNat, ↓reduceIte, Nat.reduceEqDiff, Nat.reduceAdd, reduceCtorEq, Int.reduceToNat, clsL, clsS, clsC, Try.f62, m0, m1, mI, mJ, hle, k1, k2, v1, v2, y1, hD5', hls]
        exact ⟨j - 1, by omega, j - 1, rfl, by omega, by omega, rfl, hB5, hD5, hP5.piv, hP5.lt, fun k q1 q2 => by
          by_cases hk : k = j
          · rw [hk]; omega
          · exact hP5.ge k (by omega) q2⟩
    · simp +contextual (disch := first | (simp only [facts, clsL, clsS, clsC, isPtrD]; done) | omega | (simp only [push_nx, put_nx, del_nx]; omega) | (refine Nat.le_antisymm ?_ ?_ <;> simp only [push_nx, put_nx, del_nx] <;> omega) | exact dok (by kernel_rfl)) only [draw_calm, draw_calmA, wpy, facts, wpb, cst, wpk, wpl, forall_const, implies_true, false_implies, Int.reduceLE, Int.reduceLT, Nat.reduceLeDiff, UInt8.reduceToNat, ↓reduceIte, Nat.reduceEqDiff, Nat.reduceAdd, reduceCtorEq, Int.reduceToNat, clsL, clsS, clsC, Try.f62, m0, m1, mI, mJ, hle]
      exact ⟨j, by omega, by omega, rfl, hB5, hD5, hP5, .inl (by omega)⟩
  rintro E6 H6 ⟨j, d1, d2, m0, m1, mI, mJ, hB6, hD6, hP6, hstop2⟩
  have hD6' : H6.get b = some (.cells (kv M) 27 true) := hD6
  by_cases hij : j < i
  · have w1 : j < M.length := by omega
    have w2 : a < M.length := by omega
    have s1 := kv_at w1
    have s2 := kv_at w2
    have t1 : j < L.length := by omega
    have t2 : a < L.length := by omega
    have t3 : (listPut (kv M) (j) [.int .u32 (gi M (a))]).length = L.length := (kvp_len w1).trans (by omega)
    simp +contextual (disch := first | (simp only [facts, clsL, clsS, clsC, isPtrD]; done) | omega | (simp only [push_nx, put_nx, del_nx]; omega) | (refine Nat.le_antisymm ?_ ?_ <;> simp only [push_nx, put_nx, del_nx] <;> omega) | exact dok (by kernel_rfl)) only [draw_calm, draw_calmA, wpy, facts, wpb, cst, wpk, wpl, forall_const, implies_true, false_implies, Int.reduceLE, Int.reduceLT, Nat.reduceLeDiff, UInt8.reduceToNat, ↓reduceIte, Nat.reduceEqDiff, Nat.reduceAdd, reduceCtorEq, Int.reduceToNat, clsL, clsS, clsC, Try.f62, m0, m1, mI, mJ, hij, s1, s2, t1, t2, t3, hD6', kv_len, hl]
    exact ⟨by omega, by omega, j, True, rfl, (hB6.put _).put _, by omega, by omega, swp M j a, swp_dat w1 w2, hR.trans (RP.swp (by omega) (by omega) (by omega) (by omega) (by omega)), pi_end hP6 (by omega) (by omega) hij (by omega) (by omega)⟩
  have w1 : i < M.length := by omega
  have w2 : j < M.length := by omega
  have s1 := kv_at w1
  have s2 := kv_at w2
  have t1 : i < L.length := by omega
  have t2 : j < L.length := by omega
  have t3 : (listPut (kv M) (i) [.int .u32 (gi M (j))]).length = L.length := (kvp_len w1).trans (by omega)
  have hlt : i < j := by
    rcases hstop with q | q
    · omega
    · rcases hstop2 with r | r
      · omega
      · by_cases hq : i = j
        · rw [hq] at q; omega
        · omega
  have hsw : PI a e (i + 1) (j - 1) x (swp M i j) := pi_swap hP6 (by omega) (by omega) hlt (by omega) (hstop.resolve_left (by omega)) (hstop2.resolve_left (by omega))
  have y2 := i64_pred (j := j) (by omega) (by omega)
  have y3 : i ≤ 9223372036854775806 := by omega
  simp +contextual (disch := first | (simp only [facts, clsL, clsS, clsC, isPtrD]; done) | omega | (simp only [push_nx, put_nx, del_nx]; omega) | (refine Nat.le_antisymm ?_ ?_ <;> simp only [push_nx, put_nx, del_nx] <;> omega) | exact dok (by kernel_rfl)) only [draw_calm, draw_calmA, wpy, facts, wpb, cst, wpk, wpl, forall_const, implies_true, false_implies, Int.reduceLE, Int.reduceLT, Nat.reduceLeDiff, UInt8.reduceToNat, ↓reduceIte, Nat.reduceEqDiff, Nat.reduceAdd, reduceCtorEq, Int.reduceToNat, clsL, clsS, clsC, Try.f62, m0, m1, mI, mJ, hij, s1, s2, t1, t2, t3, hD6', kv_len, hl, y2, y3]
  refine ⟨by omega, by omega, ?_⟩
  refine run_loop_cut (fun E H => ∃ (i j : Nat) (N : List Int), j < i ∧ i ≤ j + 1 ∧ a ≤ j ∧ j < e ∧ E 0 = .slice b 0 L.length L.length ∧ E 1 = .int .i64 a ∧ E 10 = .int .i64 i ∧ E 11 = .int .i64 j ∧ But b h H ∧ Dat H b N ∧ RP a e L N ∧ PI a e i j x N) ?_ ?_
  · refine run_loop (fun k E H => ∃ (i j : Nat) (N : List Int), k = j ∧ a + 1 ≤ i ∧ i ≤ j + 1 ∧ j < e ∧ E 0 = .slice b 0 L.length L.length ∧ E 1 = .int .i64 a ∧ E 10 = .int .i64 i ∧ E 11 = .int .i64 j ∧ But b h H ∧ Dat H b N ∧ RP a e L N ∧ PI a e i j x N) (j - 1) ⟨i + 1, j - 1, swp M i j, ?_⟩ ?_
    · simp +contextual (disch := first | (simp only [facts, clsL, clsS, clsC, isPtrD]; done) | omega | (simp only [push_nx, put_nx, del_nx]; omega) | (refine Nat.le_antisymm ?_ ?_ <;> simp only [push_nx, put_nx, del_nx] <;> omega) | fail) only [wpy, facts, wpb, cst, wpk, wpl, forall_const, implies_true, false_implies, Int.reduceLE, Int.reduceLT, Nat.reduceLeDiff, UInt8.reduceToNat, ↓reduceIte, Nat.reduceEqDiff, Nat.reduceAdd, reduceCtorEq, Int.reduceToNat, clsL, clsS, clsC, m0, m1, mI, mJ]
      exact ⟨by omega, by omega, by omega, (hB6.put _).put _, swp_dat w1 w2, hR.trans (RP.swp (by omega) (by omega) (by omega) (by omega) (by omega)), hsw⟩
    clear hP hP4 hP6 hsw hstop hstop2 hR hl hD hD4 hD6 hD6' hB hB4 hB6 g0 g1 gI gJ m0 m1 mI mJ s1 s2 t3 w1 w2 t1 t2 hij hlt y2 y3 d1 d2 c1 c2 hi0 hj0 hx
    clear i j
    clear i0 j0 M
    rintro j0 E1 H1 ⟨i0, _, M, rfl, b1, b2, b3, n0, n1, nI, nJ, hB, hD, hR, hP⟩
    have hl : M.length = L.length := hR.len
    simp +contextual (disch := first | (simp only [facts, clsL, clsS, clsC, isPtrD]; done) | omega | (simp only [push_nx, put_nx, del_nx]; omega) | (refine Nat.le_antisymm ?_ ?_ <;> simp only [push_nx, put_nx, del_nx] <;> omega) | fail) only [wpy, facts, wpb, cst, wpk, wpl, forall_const, implies_true, false_implies, Int.reduceLE, Int.reduceLT, Nat.reduceLeDiff, UInt8.reduceToNat, ↓reduceIte, Nat.reduceEqDiff, Nat.reduceAdd, reduceCtorEq, Int.reduceToNat, clsL, clsS, clsC, Try.f62]
    refine run_loop_cut (fun E H => ∃ i : Nat, i0 ≤ i ∧ i ≤ j0 + 1 ∧ E 0 = .slice b 0 L.length L.length ∧ E 1 = .int .i64 a ∧ E 10 = .int .i64 i ∧ E 11 = .int .i64 j0 ∧ But b h H ∧ Dat H b M ∧ PI a e i j0 x M ∧ (j0 < i ∨ x ≤ gi M i)) ?_ ?_
    · refine run_loop (fun k E H => ∃ i : Nat, k = j0 + 1 - i ∧ i0 ≤ i ∧ i ≤ j0 + 1 ∧ E 0 = .slice b 0 L.length L.length ∧ E 1 = .int .i64 a ∧ E 10 = .int .i64 i ∧ E 11 = .int .i64 j0 ∧ But b h H ∧ Dat H b M ∧ PI a e i j0 x M) (j0 + 1 - i0) ⟨i0, ?_⟩ ?_
      · simp +contextual (disch := first | (simp only [facts, clsL, clsS, clsC, isPtrD]; done) | omega | (simp only [push_nx, put_nx, del_nx]; omega) | (refine Nat.le_antisymm ?_ ?_ <;> simp only [push_nx, put_nx, del_nx] <;> omega) | fail) only [wpy, facts, wpb, cst, wpk, wpl, forall_const, implies_true, false_implies, Int.reduceLE, Int.reduceLT, Nat.reduceLeDiff, UInt8.reduceToNat, ↓reduceIte, Nat.reduceEqDiff, Nat.reduceAdd, reduceCtorEq, Int.reduceToNat, clsL, clsS, clsC, n0, n1, nI, nJ]
        exact ⟨by omega, hB, hD, hP⟩
      rintro k3 E3 H3 ⟨i, rfl, c1, c2, g0, g1, gI, gJ, hB3, hD3, hP3⟩
      have hD3' : H3.get b = some (.cells (kv M) 27 true) := hD3
      by_cases hle : i ≤ j0
      · have u1 : i < M.length := by omega
        have u2 : a < M.length := by omega
        have k1 := kv_at u1
        have k2 := kv_at u2
        have v1 : i < L.length := by omega
        have v2 : a < L.length := by omega
        rw [hP3.piv] at k2
        have y1 : i ≤ 9223372036854775806 := by omega
        simp +contextual (disch := first | (simp only [facts, clsL, clsS, clsC, isPtrD]; done) | omega | (simp only [push_nx, put_nx, del_nx]; omega) | (refine Nat.le_antisymm ?_ ?_ <;> simp only [push_nx, put_nx, del_nx] <;> omega) | exact dok (by kernel_rfl)) only [draw_calm, draw_calmA, wpy, facts, wpb, cst, wpk, wpl, forall_const, implies_true, false_implies, Int.reduceLE, Int.reduceLT, Nat.reduceLeDiff, UInt8.reduceToNat, ↓reduceIte, Nat.reduceEqDiff, Nat.reduceAdd, reduceCtorEq, Int.reduceToNat, clsL, clsS, clsC, Try.f62, g0, g1, gI, gJ, hle, k1, k2, v1, v2, y1, hD3']
        refine callF_exact (less_spec hS _ _ _) ?_
        by_cases hls : gi M i < x
        · simp +contextual (disch := first | (simp only [facts, clsL, clsS, clsC, isPtrD]; done) | omega | (simp only [push_nx, put_nx, del_nx]; omega) | (refine Nat.le_antisymm ?_ ?_ <;> simp only [push_nx, put_nx, del_nx] <;> omega) | exact dok (by kernel_rfl)) only [draw_calm, draw_calmA, wpy, facts, wpb, cst, wpk, wpl, forall_const, implies_true, false_implies, Int.reduceLE, Int.reduceLT, Nat.reduceLeDiff, UInt8.reduceToNat, ↓reduceIte, Nat.reduceEqDiff, Nat.reduceAdd, reduceCtorEq, Int.reduceToNat, clsL, clsS, clsC, Try.f62, g0, g1, gI, gJ, hle, k1, k2, v1, v2, y1, hD3', hls]
          exact ⟨j0 + 1 - (i + 1), by omega, i + 1, rfl, by omega, by omega, rfl, hB3, hD3, hP3.piv, fun k q1 q2 => by
            by_cases hk : k = i
            · rw [hk]; exact hls
            · exact hP3.lt k q1 (by omega), hP3.ge⟩
        · simp +contextual (disch := first | (simp only [facts, clsL, clsS, clsC, isPtrD]; done) | omega | (simp only [push_nx, put_nx, del_nx]; omega) | (refine Nat.le_antisymm ?_ ?_ <;> simp only [push_nx, put_nx, del_nx] <;> omega) | exact dok (by kernel_rfl)) only [draw_calm, draw_calmA, wpy, facts, wpb, cst, wpk, wpl, forall_const, implies_true, false_implies, Int.reduceLE, Int.reduceLT, Nat.reduceLeDiff, UInt8.reduceToNat, ↓reduceIte, Nat.reduceEqDiff, Nat.reduceAdd, reduceCtorEq, Int.reduceToNat, clsL, clsS, clsC, Try.f62, g0, g1, gI, gJ, hle, k1, k2, v1, v2, y1, hD3', hls]
          exact ⟨i, by omega, by omega, rfl, hB3, hD3, hP3, .inr (by omega)⟩
      · simp +contextual (disch := first | (simp only [facts, clsL, clsS, clsC, isPtrD]; done) | omega | (simp only [push_nx, put_nx, del_nx]; omega) | (refine Nat.le_antisymm ?_ ?_ <;> simp only [push_nx, put_nx, del_nx] <;> omega) | exact dok (by kernel_rfl)) only [draw_calm, draw_calmA, wpy, facts, wpb, cst, wpk, wpl, forall_const, implies_true, false_implies, Int.reduceLE, Int.reduceLT, Nat.reduceLeDiff, UInt8.reduceToNat, ↓reduceIte, Nat.reduceEqDiff, Nat.reduceAdd, reduceCtorEq, Int.reduceToNat, clsL, clsS, clsC, Try.f62, g0, g1, gI, gJ, hle]
        exact ⟨i, by omega, by omega, rfl, hB3, hD3, hP3, .inl (by omega)⟩
    rintro E4 H4 ⟨i, c1, c2, g0, g1, gI, gJ, hB4, hD4, hP4, hstop⟩
    simp +contextual (disch := first | (simp only [facts, clsL, clsS, clsC, isPtrD]; done) | omega | (simp only [push_nx, put_nx, del_nx]; omega) | (refine Nat.le_antisymm ?_ ?_ <;> simp only [push_nx, put_nx, del_nx] <;> omega) | fail) only [wpy, facts, wpb, cst, wpk, wpl, forall_const, implies_true, false_implies, Int.reduceLE, Int.reduceLT, Nat.reduceLeDiff, UInt8.reduceToNat, ↓reduceIte, Nat.reduceEqDiff, Nat.reduceAdd, reduceCtorEq, Int.reduceToNat, clsL, clsS, clsC, Try.f62]
    refine run_loop_cut (fun E H => ∃ j : Nat, i ≤ j + 1 ∧ j ≤ j0 ∧ E 0 = .slice b 0 L.length L.length ∧ E 1 = .int .i64 a ∧ E 10 = .int .i64 i ∧ E 11 = .int .i64 j ∧ But b h H ∧ Dat H b M ∧ PI a e i j x M ∧ (j < i ∨ gi M j < x)) ?_ ?_
    · refine run_loop (fun k E H => ∃ j : Nat, k = j ∧ i ≤ j + 1 ∧ j ≤ j0 ∧ E 0 = .slice b 0 L.length L.length ∧ E 1 = .int .i64 a ∧ E 10 = .int .i64 i ∧ E 11 = .int .i64 j ∧ But b h H ∧ Dat H b M ∧ PI a e i j x M) j0 ⟨j0, ?_⟩ ?_
      · simp +contextual (disch := first | (simp only [facts, clsL, clsS, clsC, isPtrD]; done) | omega | (simp only [push_nx, put_nx, del_nx]; omega) | (refine Nat.le_antisymm ?_ ?_ <;> simp only [push_nx, put_nx, del_nx] <;> omega) | fail) only [wpy, facts, wpb, cst, wpk, wpl, forall_const, implies_true, false_implies, Int.reduceLE, Int.reduceLT, Nat.reduceLeDiff, UInt8.reduceToNat, ↓reduceIte, Nat.reduceEqDiff, Nat.reduceAdd, reduceCtorEq, Int.reduceToNat, clsL, clsS, clsC, g0, g1, gI, gJ]
        exact ⟨by omega, hB4, hD4, hP4⟩
      rintro j E5 H5 ⟨_, rfl, d1, d2, m0, m1, mI, mJ, hB5, hD5, hP5⟩
      have hD5' : H5.get b = some (.cells (kv M) 27 true) := hD5
      by_cases hle : i ≤ j
      · have u1 : j < M.length := by omega
        have u2 : a < M.length := by omega
        have k1 := kv_at u1
        have k2 := kv_at u2
        have v1 : j < L.length := by omega
        have v2 : a < L.length := by omega
        rw [hP5.piv] at k2
        have y1 := i64_pred (j := j) (by omega) (by omega)
        simp +contextual (disch := first | (simp only [facts, clsL, clsS, clsC, isPtrD]; done) | omega | (simp only [push_nx, put_nx, del_nx]; omega) | (refine Nat.le_antisymm ?_ ?_ <;> simp only [push_nx, put_nx, del_nx] <;> omega) | exact dok (by kernel_rfl)) only [draw_calm, draw_calmA, wpy, facts, wpb, cst, wpk, wpl, forall_const, implies_true, false_implies, Int.reduceLE, Int.reduceLT, Nat.reduceLeDiff, UInt8.reduceToNat, ↓reduceIte, Nat.reduceEqDiff, Nat.reduceAdd, reduceCtorEq, Int.reduceToNat, clsL, clsS, clsC, Try.f62, m0, m1, mI, mJ, hle, k1, k2, v1, v2, y1, hD5']
        refine callF_exact (less_spec hS _ _ _) ?_
        by_cases hls : gi M j < x
        · simp +contextual (disch := first | (simp only [facts, clsL, clsS, clsC, isPtrD]; done) | omega | (simp only [push_nx, put_nx, del_nx]; omega) | (refine Nat.le_antisymm ?_ ?_ <;> simp only [push_nx, put_nx, del_nx] <;> omega) | exact dok (by kernel_rfl)) only [draw_calm, draw_calmA, wpy, facts, wpb, cst, wpk, wpl, forall_const, implies_true, false_implies, Int.reduceLE, Int.reduceLT, Nat.reduceLeDiff, UInt8.reduceToNat, ↓reduceIte, Nat.reduceEqDiff, Nat.reduceAdd, reduceCtorEq, Int.reduceToNat, clsL, clsS, clsC, Try.f62, m0, m1, mI, mJ, hle, k1, k2, v1, v2, y1, hD5', hls]
          exact ⟨j, by omega, by omega, rfl, hB5, hD5, hP5, .inr (by omega)⟩
        · simp +contextual (disch := first | (simp only [facts, clsL, clsS, clsC, isPtrD]; done) | omega | (simp only [push_nx, put_nx, del_nx]; omega) | (refine Nat.le_antisymm ?_ ?_ <;> simp only [push_nx, put_nx, del_nx] <;> omega) | exact dok (by kernel_rfl)) only [draw_calm, draw_calmA, wpy, facts, wpb, cst, wpk, wpl, forall_const, implies_true, false_implies, Int.reduceLE, Int.reduceLT, Nat.reduceLeDiff, UInt8.reduceToNat, ↓reduceIte, Nat.reduceEqDiff, Nat.reduceAdd, reduceCtorEq, Int.reduceToNat, clsL, clsS, clsC, Try.f62, m0, m1, mI, mJ, hle, k1, k2, v1, v2, y1, hD5', hls]
          exact ⟨j - 1, by omega, j - 1, rfl, by omega, by omega, rfl, hB5, hD5, hP5.piv, hP5.lt, fun k q1 q2 => by
            by_cases hk : k = j
            · rw [hk]; omega
            · exact hP5.ge k (by omega) q2⟩
      · simp +contextual (disch := first | (simp only [facts, clsL, clsS, clsC, isPtrD]; done) | omega | (simp only [push_nx, put_nx, del_nx]; omega) | (refine Nat.le_antisymm ?_ ?_ <;> simp only [push_nx, put_nx, del_nx] <;> omega) | exact dok (by kernel_rfl)) only [draw_calm, draw_calmA, wpy, facts, wpb, cst, wpk, wpl, forall_const, implies_true, false_implies, Int.reduceLE, Int.reduceLT, Nat.reduceLeDiff, UInt8.reduceToNat, ↓reduceIte, Nat.reduceEqDiff, Nat.reduceAdd, reduceCtorEq, Int.reduceToNat, clsL, clsS, clsC, Try.f62, m0, m1, mI, mJ, hle]
        exact ⟨j, by omega, by omega, rfl, hB5, hD5, hP5, .inl (by omega)⟩
    rintro E6 H6 ⟨j, d1, d2, m0, m1, mI, mJ, hB6, hD6, hP6, hstop2⟩
    have hD6' : H6.get b = some (.cells (kv M) 27 true) := hD6
    by_cases hij : j < i
    · simp +contextual (disch := first | (simp only [facts, clsL, clsS, clsC, isPtrD]; done) | omega | (simp only [push_nx, put_nx, del_nx]; omega) | (refine Nat.le_antisymm ?_ ?_ <;> simp only [push_nx, put_nx, del_nx] <;> omega) | exact dok (by kernel_rfl)) only [draw_calm, draw_calmA, wpy, facts, wpb, cst, wpk, wpl, forall_const, implies_true, false_implies, Int.reduceLE, Int.reduceLT, Nat.reduceLeDiff, UInt8.reduceToNat, ↓reduceIte, Nat.reduceEqDiff, Nat.reduceAdd, reduceCtorEq, Int.reduceToNat, clsL, clsS, clsC, Try.f62, m0, m1, mI, mJ, hij]
      exact ⟨i, j, M, hij, by omega, by omega, by omega, rfl, rfl, hB6, hD6, hR, hP6⟩
    have w1 : i < M.length := by omega
    have w2 : j < M.length := by omega
    have s1 := kv_at w1
    have s2 := kv_at w2
    have t1 : i < L.length := by omega
    have t2 : j < L.length := by omega
    have t3 : (listPut (kv M) (i) [.int .u32 (gi M (j))]).length = L.length := (kvp_len w1).trans (by omega)
    have hlt : i < j := by
      rcases hstop with q | q
      · omega
      · rcases hstop2 with r | r
        · omega
        · by_cases hq : i = j
          · rw [hq] at q; omega
          · omega
    have hsw : PI a e (i + 1) (j - 1) x (swp M i j) := pi_swap hP6 (by omega) (by omega) hlt (by omega) (hstop.resolve_left (by omega)) (hstop2.resolve_left (by omega))
    have y2 := i64_pred (j := j) (by omega) (by omega)
    have y3 : i ≤ 9223372036854775806 := by omega
    simp +contextual (disch := first | (simp only [facts, clsL, clsS, clsC, isPtrD]; done) | omega | (simp only [push_nx, put_nx, del_nx]; omega) | (refine Nat.le_antisymm ?_ ?_ <;> simp only [push_nx, put_nx, del_nx] <;> omega) | exact dok (by kernel_rfl)) only [draw_calm, draw_calmA, wpy, facts, wpb, cst, wpk, wpl, forall_const, implies_true, false_implies, Int.reduceLE, Int.reduceLT, Nat.reduceLeDiff, UInt8.reduceToNat, ↓reduceIte, Nat.reduceEqDiff, Nat.reduceAdd, reduceCtorEq, Int.reduceToNat, clsL, clsS, clsC, Try.f62, m0, m1, mI, mJ, hij, s1, s2, t1, t2, t3, hD6', kv_len, hl, y2, y3]
    exact ⟨by omega, by omega, j - 1, by omega, i + 1, j - 1, swp M i j, rfl, by omega, by omega, by omega, rfl, rfl, (hB6.put _).put _, swp_dat w1 w2, hR.trans (RP.swp (by omega) (by omega) (by omega) (by omega) (by omega)), hsw⟩
  rintro E7 H7 ⟨i, j, N, hij7, hij8, haj, hje, o0, o1, oI, oJ, hB7, hD7, hR7, hP7⟩
  have hl7 : N.length = L.length := hR7.len
  have hD7' : H7.get b = some (.cells (kv N) 27 true) := hD7
  have w3 : j < N.length := by omega
  have w4 : a < N.length := by omega
  have s3 := kv_at w3
  have s4 := kv_at w4
  have t4 : j < L.length := by omega
  have t5 : a < L.length := by omega
  have t6 : (listPut (kv N) (j) [.int .u32 (gi N (a))]).length = L.length := (kvp_len w3).trans (by omega)
  simp +contextual (disch := first | (simp only [facts, clsL, clsS, clsC, isPtrD]; done) | omega | (simp only [push_nx, put_nx, del_nx]; omega) | (refine Nat.le_antisymm ?_ ?_ <;> simp only [push_nx, put_nx, del_nx] <;> omega) | exact dok (by kernel_rfl)) only [draw_calm, draw_calmA, wpy, facts, wpb, cst, wpk, wpl, forall_const, implies_true, false_implies, Int.reduceLE, Int.reduceLT, Nat.reduceLeDiff, UInt8.reduceToNat, ↓reduceIte, Nat.reduceEqDiff, Nat.reduceAdd, reduceCtorEq, Int.reduceToNat, clsL, clsS, clsC, Try.f62, o0, o1, oI, oJ, s3, s4, t4, t5, t6, hD7', kv_len, hl7]
  exact ⟨by omega, by omega, j, False, rfl, (hB7.put _).put _, haj, hje, swp N j a, swp_dat w3 w4, hR7.trans (RP.swp (by omega) (by omega) (by omega) (by omega) (by omega)), pi_end hP7 (by omega) haj hij7 hij8 hje⟩
end
noncomputable section
theorem pred_move {a e : Nat} {L M : List Int} (r : RP a e L M) (h : a = 0 ∨ ∀ k, a ≤ k → k < e → gi L (a - 1) ≤ gi L k) : a = 0 ∨ ∀ k, a ≤ k → k < e → gi M (a - 1) ≤ gi M k := (Todo.start h).move r |>.pred
variable {S : Set0} (hS : StdS S)
include hS
set_option maxHeartbeats 1000000 in
theorem parteq_spec (b a e p : Nat) (L : List Int) (h : H) (ha : a ≤ p) (hpe : p < e) (he : e ≤ L.length) (hn : L.length < 2 ^ 40) (hb : b < h.nx) (hd : Dat h b L) : callW S.cfg (fun k => k = b) 61 [.slice b 0 L.length L.length, .int .i64 a, .int .i64 e, .int .i64 p] h fun v h' => ∃ m : Nat, v = .int .i64 m ∧ But b h h' ∧ a < m ∧ m ≤ e ∧ ∃ L', Dat h' b L' ∧ RP a e L L' ∧ (∀ k, a ≤ k → k < m → gi L' k ≤ gi L p) ∧ ∀ k, m ≤ k → k < e → gi L p < gi L' k := by
  refine into Try.f61 _ Try.func61 (hS.ownS _ (by decide)) rfl rfl (by kernel_rfl) (by kernel_rfl) ?_
  have hd' : h.get b = some (.cells (kv L) 27 true) := hd
  have w1 : a < L.length := by omega
  have w2 : p < L.length := by omega
  have s1 := kv_at w1
  have s2 := kv_at w2
  have t1 : a < L.length := by omega
  have t2 : p < L.length := by omega
  have t3 : (listPut (kv L) (a) [.int .u32 (gi L (p))]).length = L.length := (kvp_len w1).trans (by omega)
  have y0 : a ≤ 9223372036854775806 := by omega
  have y1 := i64_pred (j := e) (by omega) (by omega)
  have hxp : gi (swp L a p) a = gi L p := by
    rw [gi_swp w1 w2]
    by_cases q : a = p
    · rw [if_pos q, q]
    · rw [if_neg q, if_pos rfl]
  simp +contextual (disch := first | (simp only [facts, clsL, clsS, clsC, isPtrD]; done) | omega | (simp only [push_nx, put_nx, del_nx]; omega) | (refine Nat.le_antisymm ?_ ?_ <;> simp only [push_nx, put_nx, del_nx] <;> omega) | exact dok (by kernel_rfl)) only [draw_calm, draw_calmA, wpy, facts, wpb, cst, wpk, wpl, forall_const, implies_true, false_implies, Int.reduceLE, Int.reduceLT, Nat.reduceLeDiff, UInt8.reduceToNat, ↓reduceIte, Nat.reduceEqDiff, Nat.reduceAdd, reduceCtorEq, Int.reduceToNat, clsL, clsS, clsC, Try.f61, s1, s2, t1, t2, t3, hd', kv_len, y0, y1]
  refine ⟨by omega, by omega, ?_⟩
  obtain ⟨H0, hH0⟩ : ∃ H0, H0 = (h.put b (Ob.cells (listPut (kv L) a [V.int IntKind.u32 (gi L p)]) 27 true)).put b (Ob.cells (listPut (listPut (kv L) a [V.int IntKind.u32 (gi L p)]) p [V.int IntKind.u32 (gi L a)]) 27 true) := ⟨_, rfl⟩
  rw [← hH0]
  have hD : Dat H0 b (swp L a p) := by rw [hH0]; exact swp_dat w1 w2
  have hB : But b h H0 := by rw [hH0]; exact ((But.refl _ _).put _).put _
  have hR : RP a e L (swp L a p) := RP.swp (Nat.le_refl _) (by omega) ha hpe he
  clear hH0 s1 s2 t3 w1 w2 t1 t2
  obtain ⟨x, hx⟩ : ∃ x, x = gi L p := ⟨_, rfl⟩
  rw [← hx] at hxp ⊢
  have hP : PE a e (a + 1) (e - 1) x (swp L a p) := ⟨hxp, fun k q1 q2 => by omega, fun k q1 q2 => by omega⟩
  generalize swp L a p = M0 at *
  refine run_loop_cut (fun E H => ∃ (i j : Nat) (N : List Int), j < i ∧ i ≤ j + 1 ∧ a < i ∧ i ≤ e ∧ E 9 = .int .i64 i ∧ But b h H ∧ Dat H b N ∧ RP a e L N ∧ PE a e i j x N) ?_ ?_
  · refine run_loop (fun k E H => ∃ (i j : Nat) (N : List Int), k = j ∧ a + 1 ≤ i ∧ i ≤ j + 1 ∧ j < e ∧ E 0 = .slice b 0 L.length L.length ∧ E 1 = .int .i64 a ∧ E 9 = .int .i64 i ∧ E 10 = .int .i64 j ∧ But b h H ∧ Dat H b N ∧ RP a e L N ∧ PE a e i j x N) (e - 1) ⟨a + 1, e - 1, M0, ?_⟩ ?_
    · simp +contextual (disch := first | (simp only [facts, clsL, clsS, clsC, isPtrD]; done) | omega | (simp only [push_nx, put_nx, del_nx]; omega) | (refine Nat.le_antisymm ?_ ?_ <;> simp only [push_nx, put_nx, del_nx] <;> omega) | fail) only [wpy, facts, wpb, cst, wpk, wpl, forall_const, implies_true, false_implies, Int.reduceLE, Int.reduceLT, Nat.reduceLeDiff, UInt8.reduceToNat, ↓reduceIte, Nat.reduceEqDiff, Nat.reduceAdd, reduceCtorEq, Int.reduceToNat, clsL, clsS, clsC]
      exact ⟨by omega, by omega, hB, hD, hR, hP⟩
    clear hP hR hD hB hxp
    clear M0
    rintro j0 E1 H1 ⟨i0, _, M, rfl, b1, b2, b3, n0, n1, nI, nJ, hB, hD, hR, hP⟩
    have hl : M.length = L.length := hR.len
    simp +contextual (disch := first | (simp only [facts, clsL, clsS, clsC, isPtrD]; done) | omega | (simp only [push_nx, put_nx, del_nx]; omega) | (refine Nat.le_antisymm ?_ ?_ <;> simp only [push_nx, put_nx, del_nx] <;> omega) | fail) only [wpy, facts, wpb, cst, wpk, wpl, forall_const, implies_true, false_implies, Int.reduceLE, Int.reduceLT, Nat.reduceLeDiff, UInt8.reduceToNat, ↓reduceIte, Nat.reduceEqDiff, Nat.reduceAdd, reduceCtorEq, Int.reduceToNat, clsL, clsS, clsC, Try.f61]
    refine run_loop_cut (fun E H => ∃ i : Nat, i0 ≤ i ∧ i ≤ j0 + 1 ∧ E 0 = .slice b 0 L.length L.length ∧ E 1 = .int .i64 a ∧ E 9 = .int .i64 i ∧ E 10 = .int .i64 j0 ∧ But b h H ∧ Dat H b M ∧ PE a e i j0 x M ∧ (j0 < i ∨ x < gi M i)) ?_ ?_
    · refine run_loop (fun k E H => ∃ i : Nat, k = j0 + 1 - i ∧ i0 ≤ i ∧ i ≤ j0 + 1 ∧ E 0 = .slice b 0 L.length L.length ∧ E 1 = .int .i64 a ∧ E 9 = .int .i64 i ∧ E 10 = .int .i64 j0 ∧ But b h H ∧ Dat H b M ∧ PE a e i j0 x M) (j0 + 1 - i0) ⟨i0, ?_⟩ ?_
      · simp +contextual (disch := first | (simp only [facts, clsL, clsS, clsC, isPtrD]; done) | omega | (simp only [push_nx, put_nx, del_nx]; omega) | (refine Nat.le_antisymm ?_ ?_ <;> simp only [push_nx, put_nx, del_nx] <;> omega) | fail) only [wpy, facts, wpb, cst, wpk, wpl, forall_const, implies_true, false_implies, Int.reduceLE, Int.reduceLT, Nat.reduceLeDiff, UInt8.reduceToNat, ↓reduceIte, Nat.reduceEqDiff, Nat.reduceAdd, reduceCtorEq, Int.reduceToNat, clsL, clsS, clsC, n0, n1, nI, nJ]
        exact ⟨by omega, hB, hD, hP⟩
      rintro k3 E3 H3 ⟨i, rfl, c1, c2, g0, g1, gI, gJ, hB3, hD3, hP3⟩
      have hD3' : H3.get b = some (.cells (kv M) 27 true) := hD3
      by_cases hle : i ≤ j0
      · have u1 : i < M.length := by omega
        have u2 : a < M.length := by omega
        have k1 := kv_at u1
        have k2 := kv_at u2
        have v1 : i < L.length := by omega
        have v2 : a < L.length := by omega
        rw [hP3.piv] at k2
        have y1 : i ≤ 9223372036854775806 := by omega
        simp +contextual (disch := first | (simp only [facts, clsL, clsS, clsC, isPtrD]; done) | omega | (simp only [push_nx, put_nx, del_nx]; omega) | (refine Nat.le_antisymm ?_ ?_ <;> simp only [push_nx, put_nx, del_nx] <;> omega) | exact dok (by kernel_rfl)) only [draw_calm, draw_calmA, wpy, facts, wpb, cst, wpk, wpl, forall_const, implies_true, false_implies, Int.reduceLE, Int.reduceLT, Nat.reduceLeDiff, UInt8.reduceToNat, ↓reduceIte, Nat.reduceEqDiff, Nat.reduceAdd, reduceCtorEq, Int.reduceToNat, clsL, clsS, clsC, Try.f61, g0, g1, gI, gJ, hle, k1, k2, v1, v2, y1, hD3']
        refine callF_exact (less_spec hS _ _ _) ?_
        by_cases hls : x < gi M i
        · simp +contextual (disch := first | (simp only [facts, clsL, clsS, clsC, isPtrD]; done) | omega | (simp only [push_nx, put_nx, del_nx]; omega) | (refine Nat.le_antisymm ?_ ?_ <;> simp only [push_nx, put_nx, del_nx] <;> omega) | exact dok (by kernel_rfl)) only [draw_calm, draw_calmA, wpy, facts, wpb, cst, wpk, wpl, forall_const, implies_true, false_implies, Int.reduceLE, Int.reduceLT, Nat.reduceLeDiff, UInt8.reduceToNat, ↓reduceIte, Nat.reduceEqDiff, Nat.reduceAdd, reduceCtorEq, Int.reduceToNat, clsL, clsS, clsC, Try.f61, g0, g1, gI, gJ, hle, k1, k2, v1, v2, y1, hD3', hls]
          exact ⟨i, by omega, by omega, rfl, hB3, hD3, hP3, .inr (by omega)⟩
        · simp +contextual (disch := first | (simp only [facts, clsL, clsS, clsC, isPtrD]; done) | omega | (simp only [push_nx, put_nx, del_nx]; omega) | (refine Nat.le_antisymm ?_ ?_ <;> simp only [push_nx, put_nx, del_nx] <;> omega) | exact dok (by kernel_rfl)) only [draw_calm, draw_calmA, wpy, facts, wpb, cst, wpk, wpl, forall_const, implies_true, false_implies, Int.reduceLE, Int.reduceLT, Nat.reduceLeDiff, UInt8.reduceToNat, ↓reduceIte, Nat.reduceEqDiff, Nat.reduceAdd, reduceCtorEq, Int.reduceToNat, clsL, clsS, clsC, Try.f61, g0, g1, gI, gJ, hle, k1, k2, v1, v2, y1, hD3', hls]
          exact ⟨j0 + 1 - (i + 1), by omega, i + 1, rfl, by omega, by omega, rfl, hB3, hD3, hP3.piv, fun k q1 q2 => by
            by_cases hk : k = i
            · rw [hk]; omega
            · exact hP3.le k q1 (by omega), hP3.gt⟩
      · simp +contextual (disch := first | (simp only [facts, clsL, clsS, clsC, isPtrD]; done) | omega | (simp only [push_nx, put_nx, del_nx]; omega) | (refine Nat.le_antisymm ?_ ?_ <;> simp only [push_nx, put_nx, del_nx] <;> omega) | exact dok (by kernel_rfl)) only [draw_calm, draw_calmA, wpy, facts, wpb, cst, wpk, wpl, forall_const, implies_true, false_implies, Int.reduceLE, Int.reduceLT, Nat.reduceLeDiff, UInt8.reduceToNat, ↓reduceIte, Nat.reduceEqDiff, Nat.reduceAdd, reduceCtorEq, Int.reduceToNat, clsL, clsS, clsC, Try.f61, g0, g1, gI, gJ, hle]
        exact ⟨i, by omega, by omega, rfl, hB3, hD3, hP3, .inl (by omega)⟩
    rintro E4 H4 ⟨i, c1, c2, g0, g1, gI, gJ, hB4, hD4, hP4, hstop⟩
    simp +contextual (disch := first | (simp only [facts, clsL, clsS, clsC, isPtrD]; done) | omega | (simp only [push_nx, put_nx, del_nx]; omega) | (refine Nat.le_antisymm ?_ ?_ <;> simp only [push_nx, put_nx, del_nx] <;> omega) | fail) only [wpy, facts, wpb, cst, wpk, wpl, forall_const, implies_true, false_implies, Int.reduceLE, Int.reduceLT, Nat.reduceLeDiff, UInt8.reduceToNat, ↓reduceIte, Nat.reduceEqDiff, Nat.reduceAdd, reduceCtorEq, Int.reduceToNat, clsL, clsS, clsC, Try.f61]
    refine run_loop_cut (fun E H => ∃ j : Nat, i ≤ j + 1 ∧ j ≤ j0 ∧ E 0 = .slice b 0 L.length L.length ∧ E 1 = .int .i64 a ∧ E 9 = .int .i64 i ∧ E 10 = .int .i64 j ∧ But b h H ∧ Dat H b M ∧ PE a e i j x M ∧ (j < i ∨ gi M j ≤ x)) ?_ ?_
    · refine run_loop (fun k E H => ∃ j : Nat, k = j ∧ i ≤ j + 1 ∧ j ≤ j0 ∧ E 0 = .slice b 0 L.length L.length ∧ E 1 = .int .i64 a ∧ E 9 = .int .i64 i ∧ E 10 = .int .i64 j ∧ But b h H ∧ Dat H b M ∧ PE a e i j x M) j0 ⟨j0, ?_⟩ ?_
      · simp +contextual (disch := first | (simp only [facts, clsL, clsS, clsC, isPtrD]; done) | omega | (simp only [push_nx, put_nx, del_nx]; omega) | (refine Nat.le_antisymm ?_ ?_ <;> simp only [push_nx, put_nx, del_nx] <;> omega) | fail) only [wpy, facts, wpb, cst, wpk, wpl, forall_const, implies_true, false_implies, Int.reduceLE, Int.reduceLT, Nat.reduceLeDiff, UInt8.reduceToNat, ↓reduceIte, Nat.reduceEqDiff, Nat.reduceAdd, reduceCtorEq, Int.reduceToNat, clsL, clsS, clsC, g0, g1, gI, gJ]
        exact ⟨by omega, hB4, hD4, hP4⟩
      rintro j E5 H5 ⟨_, rfl, d1, d2, m0, m1, mI, mJ, hB5, hD5, hP5⟩
      have hD5' : H5.get b = some (.cells (kv M) 27 true) := hD5
      by_cases hle : i ≤ j
      · have u1 : j < M.length := by omega
        have u2 : a < M.length := by omega
        have k1 := kv_at u1
        have k2 := kv_at u2
        have v1 : j < L.length := by omega
        have v2 : a < L.length := by omega
        rw [hP5.piv] at k2
        have y1 := i64_pred (j := j) (by omega) (by omega)
        simp +contextual (disch := first | (simp only [facts, clsL, clsS, clsC, isPtrD]; done) | omega | (simp only [push_nx, put_nx, del_nx]; omega) | (refine Nat.le_antisymm ?_ ?_ <;> simp only [push_nx, put_nx, del_nx] <;> omega) | exact dok (by kernel_rfl)) only [draw_calm, draw_calmA, wpy, facts, wpb, cst, wpk, wpl, forall_const, implies_true, false_implies, Int.reduceLE, Int.reduceLT, Nat.reduceLeDiff, UInt8.reduceToNat, ↓reduceIte, Nat.reduceEqDiff, Nat.reduceAdd, reduceCtorEq, Int.reduceToNat, clsL, clsS, clsC, Try.f61, m0, m1, mI, mJ, hle, k1, k2, v1, v2, y1, hD5']
        refine callF_exact (less_spec hS _ _ _) ?_
        by_cases hls : x < gi M j
        · simp +contextual (disch := first | (simp only [facts, clsL, clsS, clsC, isPtrD]; done) | omega | (simp only [push_nx, put_nx, del_nx]; omega) | (refine Nat.le_antisymm ?_ ?_ <;> simp only [push_nx, put_nx, del_nx] <;> omega) | exact dok (by kernel_rfl)) only [draw_calm, draw_calmA, wpy, facts, wpb, cst, wpk, wpl, forall_const, implies_true, false_implies, Int.reduceLE, Int.reduceLT, Nat.reduceLeDiff, UInt8.reduceToNat, ↓reduceIte, Nat.reduceEqDiff, Nat.reduceAdd, reduceCtorEq, Int.reduceToNat, clsL, clsS, clsC, Try.f61, m0, m1, mI, mJ, hle, k1, k2, v1, v2, y1, hD5', hls]
          exact ⟨j - 1, by omega, j - 1, rfl, by omega, by omega, rfl, hB5, hD5, hP5.piv, hP5.le, fun k q1 q2 => by
            by_cases hk : k = j
            · rw [hk]; exact hls
            · exact hP5.gt k (by omega) q2⟩
        · simp +contextual (disch := first | (simp only [facts, clsL, clsS, clsC, isPtrD]; done) | omega | (simp only [push_nx, put_nx, del_nx]; omega) | (refine Nat.le_antisymm ?_ ?_ <;> simp only [push_nx, put_nx, del_nx] <;> omega) | exact dok (by kernel_rfl)) only [draw_calm, draw_calmA, wpy, facts, wpb, cst, wpk, wpl, forall_const, implies_true, false_implies, Int.reduceLE, Int.reduceLT, Nat.reduceLeDiff, UInt8.reduceToNat, ↓reduceIte, Nat.reduceEqDiff, Nat.reduceAdd, reduceCtorEq, Int.reduceToNat, clsL, clsS, clsC, Try.f61, m0, m1, mI, mJ, hle, k1, k2, v1, v2, y1, hD5', hls]
          exact ⟨j, by omega, by omega, rfl, hB5, hD5, hP5, .inr (by omega)⟩
      · simp +contextual (disch := first | (simp only [facts, clsL, clsS, clsC, isPtrD]; done) | omega | (simp only [push_nx, put_nx, del_nx]; omega) | (refine Nat.le_antisymm ?_ ?_ <;> simp only [push_nx, put_nx, del_nx] <;> omega) | exact dok (by kernel_rfl)) only [draw_calm, draw_calmA, wpy, facts, wpb, cst, wpk, wpl, forall_const, implies_true, false_implies, Int.reduceLE, Int.reduceLT, Nat.reduceLeDiff, UInt8.reduceToNat, ↓reduceIte, Nat.reduceEqDiff, Nat.reduceAdd, reduceCtorEq, Int.reduceToNat, clsL, clsS, clsC, Try.f61, m0, m1, mI, mJ, hle]
        exact ⟨j, by omega, by omega, rfl, hB5, hD5, hP5, .inl (by omega)⟩
    rintro E6 H6 ⟨j, d1, d2, m0, m1, mI, mJ, hB6, hD6, hP6, hstop2⟩
    have hD6' : H6.get b = some (.cells (kv M) 27 true) := hD6
    by_cases hij : j < i
    · simp +contextual (disch := first | (simp only [facts, clsL, clsS, clsC, isPtrD]; done) | omega | (simp only [push_nx, put_nx, del_nx]; omega) | (refine Nat.le_antisymm ?_ ?_ <;> simp only [push_nx, put_nx, del_nx] <;> omega) | exact dok (by kernel_rfl)) only [draw_calm, draw_calmA, wpy, facts, wpb, cst, wpk, wpl, forall_const, implies_true, false_implies, Int.reduceLE, Int.reduceLT, Nat.reduceLeDiff, UInt8.reduceToNat, ↓reduceIte, Nat.reduceEqDiff, Nat.reduceAdd, reduceCtorEq, Int.reduceToNat, clsL, clsS, clsC, Try.f61, m0, m1, mI, mJ, hij]
      exact ⟨i, j, M, hij, by omega, by omega, by omega, rfl, hB6, hD6, hR, hP6⟩
    have w1 : i < M.length := by omega
    have w2 : j < M.length := by omega
    have s1 := kv_at w1
    have s2 := kv_at w2
    have t1 : i < L.length := by omega
    have t2 : j < L.length := by omega
    have t3 : (listPut (kv M) (i) [.int .u32 (gi M (j))]).length = L.length := (kvp_len w1).trans (by omega)
    have hlt : i < j := by
      rcases hstop with q | q
      · omega
      · rcases hstop2 with r | r
        · omega
        · by_cases hq : i = j
          · rw [hq] at q; omega
          · omega
    have hsw : PE a e (i + 1) (j - 1) x (swp M i j) := pe_swap hP6 (by omega) (by omega) hlt (by omega) (hstop.resolve_left (by omega)) (hstop2.resolve_left (by omega))
    have y2 := i64_pred (j := j) (by omega) (by omega)
    have y3 : i ≤ 9223372036854775806 := by omega
    simp +contextual (disch := first | (simp only [facts, clsL, clsS, clsC, isPtrD]; done) | omega | (simp only [push_nx, put_nx, del_nx]; omega) | (refine Nat.le_antisymm ?_ ?_ <;> simp only [push_nx, put_nx, del_nx] <;> omega) | exact dok (by kernel_rfl)) only [draw_calm, draw_calmA, wpy, facts, wpb, cst, wpk, wpl, forall_const, implies_true, false_implies, Int.reduceLE, Int.reduceLT, Nat.reduceLeDiff, UInt8.reduceToNat, ↓reduceIte, Nat.reduceEqDiff, Nat.reduceAdd, reduceCtorEq, Int.reduceToNat, clsL, clsS, clsC, Try.f61, m0, m1, mI, mJ, hij, s1, s2, t1, t2, t3, hD6', kv_len, hl, y2, y3]
    exact ⟨by omega, by omega, j - 1, by omega, i + 1, j - 1, swp M i j, rfl, by omega, by omega, by omega, rfl, rfl, (hB6.put _).put _, swp_dat w1 w2, hR.trans (RP.swp (by omega) (by omega) (by omega) (by omega) (by omega)), hsw⟩
  rintro E7 H7 ⟨i, j, N, hij7, hij8, hai, hie, oI, hB7, hD7, hR7, hP7⟩
  simp +contextual (disch := first | (simp only [facts, clsL, clsS, clsC, isPtrD]; done) | omega | (simp only [push_nx, put_nx, del_nx]; omega) | (refine Nat.le_antisymm ?_ ?_ <;> simp only [push_nx, put_nx, del_nx] <;> omega) | exact dok (by kernel_rfl)) only [draw_calm, draw_calmA, wpy, facts, wpb, cst, wpk, wpl, forall_const, implies_true, false_implies, Int.reduceLE, Int.reduceLT, Nat.reduceLeDiff, UInt8.reduceToNat, ↓reduceIte, Nat.reduceEqDiff, Nat.reduceAdd, reduceCtorEq, Int.reduceToNat, clsL, clsS, clsC, Try.f61, oI]
  exact ⟨i, rfl, hB7, hai, hie, N, hD7, hR7, fun k q1 q2 => by
    by_cases hk : k = a
    · rw [hk, hP7.piv]; exact Int.le_refl _
    · exact hP7.le k (by omega) q2, fun k q1 q2 => hP7.gt k (by omega) q2⟩
set_option maxHeartbeats 1000000 in
theorem partial_spec (b a e : Nat) (L : List Int) (h : H) (ha : a < e) (he : e ≤ L.length) (hn : L.length < 2 ^ 40) (hb : b < h.nx) (hd : Dat h b L) (hp : a = 0 ∨ ∀ k, a ≤ k → k < e → gi L (a - 1) ≤ gi L k) : callW S.cfg (fun k => k = b) 59 [.slice b 0 L.length L.length, .int .i64 a, .int .i64 e] h fun v h' => ∃ q : Prop, v = bo q ∧ But b h h' ∧ ∃ L', Dat h' b L' ∧ RP a e L L' ∧ (q → SR a e L') := by
  refine into Try.f59 _ Try.func59 (hS.ownS _ (by decide)) rfl rfl (by kernel_rfl) (by kernel_rfl) ?_
  have y0 : a ≤ 9223372036854775806 := by omega
  simp +contextual (disch := first | (simp only [facts, clsL, clsS, clsC, isPtrD]; done) | omega | (simp only [push_nx, put_nx, del_nx]; omega) | (refine Nat.le_antisymm ?_ ?_ <;> simp only [push_nx, put_nx, del_nx] <;> omega) | fail) only [wpy, facts, wpb, cst, wpk, wpl, forall_const, implies_true, false_implies, Int.reduceLE, Int.reduceLT, Nat.reduceLeDiff, UInt8.reduceToNat, ↓reduceIte, Nat.reduceEqDiff, Nat.reduceAdd, reduceCtorEq, Int.reduceToNat, clsL, clsS, clsC, Try.f59, y0]
  refine run_loop (fun k E H => ∃ (t i : Nat) (M : List Int), k = 5 - t ∧ t ≤ 5 ∧ a + 1 ≤ i ∧ i ≤ e ∧ E 0 = .slice b 0 L.length L.length ∧ E 1 = .int .i64 a ∧ E 2 = .int .i64 e ∧ E 7 = .int .i64 i ∧ E 8 = .int .i64 (t : Nat) ∧ But b h H ∧ Dat H b M ∧ RP a e L M ∧ SR a i M) 5 ⟨0, a + 1, L, ?_⟩ ?_
  · simp +contextual (disch := first | (simp only [facts, clsL, clsS, clsC, isPtrD]; done) | omega | (simp only [push_nx, put_nx, del_nx]; omega) | (refine Nat.le_antisymm ?_ ?_ <;> simp only [push_nx, put_nx, del_nx] <;> omega) | fail) only [wpy, facts, wpb, cst, wpk, wpl, forall_const, implies_true, false_implies, Int.reduceLE, Int.reduceLT, Nat.reduceLeDiff, UInt8.reduceToNat, ↓reduceIte, Nat.reduceEqDiff, Nat.reduceAdd, reduceCtorEq, Int.reduceToNat, clsL, clsS, clsC]
    exact ⟨by omega, But.refl _ _, hd, RP.refl _ _ _, SR.small (Nat.le_refl _)⟩
  rintro k E1 H1 ⟨t, i0, M, rfl, ht, b1, b2, n0, n1, n2, n7, n8, hB, hD, hR, hs⟩
  have hl : M.length = L.length := hR.len
  by_cases ht5 : t < 5
  · simp +contextual (disch := first | (simp only [facts, clsL, clsS, clsC, isPtrD]; done) | omega | (simp only [push_nx, put_nx, del_nx]; omega) | (refine Nat.le_antisymm ?_ ?_ <;> simp only [push_nx, put_nx, del_nx] <;> omega) | fail) only [wpy, facts, wpb, cst, wpk, wpl, forall_const, implies_true, false_implies, Int.reduceLE, Int.reduceLT, Nat.reduceLeDiff, UInt8.reduceToNat, ↓reduceIte, Nat.reduceEqDiff, Nat.reduceAdd, reduceCtorEq, Int.reduceToNat, clsL, clsS, clsC, Try.f59, n0, n1, n2, n7, n8, ht5]
    refine run_loop_cut (fun E H => ∃ i : Nat, i0 ≤ i ∧ i ≤ e ∧ E 0 = .slice b 0 L.length L.length ∧ E 1 = .int .i64 a ∧ E 2 = .int .i64 e ∧ E 7 = .int .i64 i ∧ E 8 = .int .i64 (t : Nat) ∧ But b h H ∧ Dat H b M ∧ SR a i M ∧ (i = e ∨ gi M i < gi M (i - 1))) ?_ ?_
    · refine run_loop (fun k E H => ∃ i : Nat, k = e - i ∧ i0 ≤ i ∧ i ≤ e ∧ E 0 = .slice b 0 L.length L.length ∧ E 1 = .int .i64 a ∧ E 2 = .int .i64 e ∧ E 7 = .int .i64 i ∧ E 8 = .int .i64 (t : Nat) ∧ But b h H ∧ Dat H b M ∧ SR a i M) (e - i0) ⟨i0, ?_⟩ ?_
      · simp +contextual (disch := first | (simp only [facts, clsL, clsS, clsC, isPtrD]; done) | omega | (simp only [push_nx, put_nx, del_nx]; omega) | (refine Nat.le_antisymm ?_ ?_ <;> simp only [push_nx, put_nx, del_nx] <;> omega) | fail) only [wpy, facts, wpb, cst, wpk, wpl, forall_const, implies_true, false_implies, Int.reduceLE, Int.reduceLT, Nat.reduceLeDiff, UInt8.reduceToNat, ↓reduceIte, Nat.reduceEqDiff, Nat.reduceAdd, reduceCtorEq, Int.reduceToNat, clsL, clsS, clsC, n0, n1, n2, n7, n8]
        exact ⟨b2, hB, hD, hs⟩
      rintro k3 E3 H3 ⟨i, rfl, c1, c2, g0, g1, g2, g7, g8, hB3, hD3, hs3⟩
      have hD3' : H3.get b = some (.cells (kv M) 27 true) := hD3
      by_cases hie : i < e
      · have u1 : i < M.length := by omega
        have u2 : i - 1 < M.length := by omega
        have k1 := kv_at u1
        have k2 := kv_at u2
        have v1 : i < L.length := by omega
        have v2 : i - 1 < L.length := by omega
        have y1 := i64_pred (j := i) (by omega) (by omega)
        have y2 : i ≤ 9223372036854775806 := by omega
        simp +contextual (disch := first | (simp only [facts, clsL, clsS, clsC, isPtrD]; done) | omega | (simp only [push_nx, put_nx, del_nx]; omega) | (refine Nat.le_antisymm ?_ ?_ <;> simp only [push_nx, put_nx, del_nx] <;> omega) | exact dok (by kernel_rfl)) only [draw_calm, draw_calmA, wpy, facts, wpb, cst, wpk, wpl, forall_const, implies_true, false_implies, Int.reduceLE, Int.reduceLT, Nat.reduceLeDiff, UInt8.reduceToNat, ↓reduceIte, Nat.reduceEqDiff, Nat.reduceAdd, reduceCtorEq, Int.reduceToNat, clsL, clsS, clsC, Try.f59, g0, g1, g2, g7, g8, hie, k1, k2, v1, v2, y1, y2, hD3']
        refine callF_exact (less_spec hS _ _ _) ?_
        by_cases hls : gi M i < gi M (i - 1)
        · simp +contextual (disch := first | (simp only [facts, clsL, clsS, clsC, isPtrD]; done) | omega | (simp only [push_nx, put_nx, del_nx]; omega) | (refine Nat.le_antisymm ?_ ?_ <;> simp only [push_nx, put_nx, del_nx] <;> omega) | exact dok (by kernel_rfl)) only [draw_calm, draw_calmA, wpy, facts, wpb, cst, wpk, wpl, forall_const, implies_true, false_implies, Int.reduceLE, Int.reduceLT, Nat.reduceLeDiff, UInt8.reduceToNat, ↓reduceIte, Nat.reduceEqDiff, Nat.reduceAdd, reduceCtorEq, Int.reduceToNat, clsL, clsS, clsC, Try.f59, g0, g1, g2, g7, g8, hie, k1, k2, v1, v2, y1, y2, hD3', hls]
          exact ⟨i, by omega, by omega, rfl, hB3, hD3, hs3, .inr hls⟩
        · simp +contextual (disch := first | (simp only [facts, clsL, clsS, clsC, isPtrD]; done) | omega | (simp only [push_nx, put_nx, del_nx]; omega) | (refine Nat.le_antisymm ?_ ?_ <;> simp only [push_nx, put_nx, del_nx] <;> omega) | exact dok (by kernel_rfl)) only [draw_calm, draw_calmA, wpy, facts, wpb, cst, wpk, wpl, forall_const, implies_true, false_implies, Int.reduceLE, Int.reduceLT, Nat.reduceLeDiff, UInt8.reduceToNat, ↓reduceIte, Nat.reduceEqDiff, Nat.reduceAdd, reduceCtorEq, Int.reduceToNat, clsL, clsS, clsC, Try.f59, g0, g1, g2, g7, g8, hie, k1, k2, v1, v2, y1, y2, hD3', hls]
          exact ⟨e - (i + 1), by omega, i + 1, rfl, by omega, by omega, rfl, hB3, hD3, ins_end (ins_start hs3) (by omega) (Nat.le_refl _) (.inr (by omega))⟩
      · simp +contextual (disch := first | (simp only [facts, clsL, clsS, clsC, isPtrD]; done) | omega | (simp only [push_nx, put_nx, del_nx]; omega) | (refine Nat.le_antisymm ?_ ?_ <;> simp only [push_nx, put_nx, del_nx] <;> omega) | exact dok (by kernel_rfl)) only [draw_calm, draw_calmA, wpy, facts, wpb, cst, wpk, wpl, forall_const, implies_true, false_implies, Int.reduceLE, Int.reduceLT, Nat.reduceLeDiff, UInt8.reduceToNat, ↓reduceIte, Nat.reduceEqDiff, Nat.reduceAdd, reduceCtorEq, Int.reduceToNat, clsL, clsS, clsC, Try.f59, g0, g1, g2, g7, g8, hie]
        exact ⟨i, by omega, by omega, rfl, hB3, hD3, hs3, .inl (by omega)⟩
    rintro E4 H4 ⟨i, c1, c2, g0, g1, g2, g7, g8, hB4, hD4, hs4, hst⟩
    have hD4' : H4.get b = some (.cells (kv M) 27 true) := hD4
    by_cases hie : i = e
    · have hie' : (i : Int) = (e : Int) := by rw [hie]
      simp +contextual (disch := first | (simp only [facts, clsL, clsS, clsC, isPtrD]; done) | omega | (simp only [push_nx, put_nx, del_nx]; omega) | (refine Nat.le_antisymm ?_ ?_ <;> simp only [push_nx, put_nx, del_nx] <;> omega) | fail) only [wpy, facts, wpb, cst, wpk, wpl, forall_const, implies_true, false_implies, Int.reduceLE, Int.reduceLT, Nat.reduceLeDiff, UInt8.reduceToNat, ↓reduceIte, Nat.reduceEqDiff, Nat.reduceAdd, reduceCtorEq, Int.reduceToNat, clsL, clsS, clsC, Try.f59, g0, g1, g2, g7, g8, hie, hie']
      exact ⟨True, rfl, hB4, M, hD4, hR, fun _ => hie ▸ hs4⟩
    have hls := hst.resolve_left hie
    have z1 : IntKind.i64.wrap ((e : Int) - (a : Nat)) = ((e - a : Nat) : Int) := by rw [i64_in _ (by omega)]; omega
    by_cases h50 : e - a < 50
    · simp +contextual (disch := first | (simp only [facts, clsL, clsS, clsC, isPtrD]; done) | omega | (simp only [push_nx, put_nx, del_nx]; omega) | (refine Nat.le_antisymm ?_ ?_ <;> simp only [push_nx, put_nx, del_nx] <;> omega) | fail) only [wpy, facts, wpb, cst, wpk, wpl, forall_const, implies_true, false_implies, Int.reduceLE, Int.reduceLT, Nat.reduceLeDiff, UInt8.reduceToNat, ↓reduceIte, Nat.reduceEqDiff, Nat.reduceAdd, reduceCtorEq, Int.reduceToNat, clsL, clsS, clsC, Try.f59, g0, g1, g2, g7, g8, hie, z1, h50]
      exact ⟨False, rfl, hB4, M, hD4, hR, fun q => q.elim⟩
    have w1 : i < M.length := by omega
    have w2 : i - 1 < M.length := by omega
    have s1 := kv_at w1
    have s2 := kv_at w2
    have t1 : i < L.length := by omega
    have t2 : i - 1 < L.length := by omega
    have t3 : (listPut (kv M) (i) [.int .u32 (gi M (i - 1))]).length = L.length := (kvp_len w1).trans (by omega)
    have y1 := i64_pred (j := i) (by omega) (by omega)
    have y2 : i ≤ 9223372036854775806 := by omega
    have z2 : IntKind.i64.wrap ((i : Int) - (a : Nat)) = ((i - a : Nat) : Int) := by rw [i64_in _ (by omega)]; omega
    have z3 : IntKind.i64.wrap ((e : Int) - (i : Nat)) = ((e - i : Nat) : Int) := by rw [i64_in _ (by omega)]; omega
    have z4 : t ≤ 9223372036854775806 := by omega
    have hI : InsI a (i - 1) (i - 1) (swp M i (i - 1)) := fun p q q1 q2 q3 q4 => by
      rw [gi_swp w1 w2, gi_swp w1 w2, if_neg (by omega), if_neg (by omega), if_neg (by omega), if_neg (by omega)]
      exact hs4 p q q1 q2 (by omega)
    have hR1 : RP a e L (swp M i (i - 1)) := hR.trans (RP.swp (by omega) (by omega) (by omega) (by omega) (by omega))
    obtain ⟨H5, hH5⟩ : ∃ H5, H5 = (H4.put b (Ob.cells (listPut (kv M) i [V.int IntKind.u32 (gi M (i - 1))]) 27 true)).put b (Ob.cells (listPut (listPut (kv M) i [V.int IntKind.u32 (gi M (i - 1))]) (i - 1) [V.int IntKind.u32 (gi M i)]) 27 true) := ⟨_, rfl⟩
    have hD5 : Dat H5 b (swp M i (i - 1)) := by rw [hH5]; exact swp_dat w1 w2
    have hB5 : But b h H5 := by rw [hH5]; exact (hB4.put _).put _
    by_cases hia : 2 ≤ i - a
    · simp +contextual (disch := first | (simp only [facts, clsL, clsS, clsC, isPtrD]; done) | omega | (simp only [push_nx, put_nx, del_nx]; omega) | (refine Nat.le_antisymm ?_ ?_ <;> simp only [push_nx, put_nx, del_nx] <;> omega) | exact dok (by kernel_rfl)) only [draw_calm, draw_calmA, wpy, facts, wpb, cst, wpk, wpl, forall_const, implies_true, false_implies, Int.reduceLE, Int.reduceLT, Nat.reduceLeDiff, UInt8.reduceToNat, ↓reduceIte, Nat.reduceEqDiff, Nat.reduceAdd, reduceCtorEq, Int.reduceToNat, clsL, clsS, clsC, Try.f59, g0, g1, g2, g7, g8, hie, z1, h50, s1, s2, t1, t2, t3, hD4', kv_len, hl, y1, y2, z2, hia]
      refine ⟨by omega, by omega, ?_⟩
      rw [← hH5]
      clear hH5
      refine run_loop_cut (fun E H => ∃ N : List Int, E 0 = .slice b 0 L.length L.length ∧ E 1 = .int .i64 a ∧ E 2 = .int .i64 e ∧ E 7 = .int .i64 i ∧ E 8 = .int .i64 (t : Nat) ∧ But b h H ∧ Dat H b N ∧ RP a e L N ∧ SR a i N) ?_ ?_
      · refine run_loop (fun k E H => ∃ (j : Nat) (N : List Int), k = j ∧ a ≤ j ∧ j ≤ i - 1 ∧ E 0 = .slice b 0 L.length L.length ∧ E 1 = .int .i64 a ∧ E 2 = .int .i64 e ∧ E 7 = .int .i64 i ∧ E 8 = .int .i64 (t : Nat) ∧ E 9 = .int .i64 j ∧ But b h H ∧ Dat H b N ∧ RP a e L N ∧ InsI a (i - 1) j N) (i - 1) ⟨i - 1, swp M i (i - 1), ?_⟩ ?_
        · simp +contextual (disch := first | (simp only [facts, clsL, clsS, clsC, isPtrD]; done) | omega | (simp only [push_nx, put_nx, del_nx]; omega) | (refine Nat.le_antisymm ?_ ?_ <;> simp only [push_nx, put_nx, del_nx] <;> omega) | fail) only [wpy, facts, wpb, cst, wpk, wpl, forall_const, implies_true, false_implies, Int.reduceLE, Int.reduceLT, Nat.reduceLeDiff, UInt8.reduceToNat, ↓reduceIte, Nat.reduceEqDiff, Nat.reduceAdd, reduceCtorEq, Int.reduceToNat, clsL, clsS, clsC, g0, g1, g2, g7, g8]
          exact ⟨by omega, hB5, hD5, hR1, hI⟩
        rintro j E6 H6 ⟨_, N, rfl, d1, d2, m0, m1, m2, m7, m8, m9, hB6, hD6, hR6, hI6⟩
        have hl6 : N.length = L.length := hR6.len
        have hD6' : H6.get b = some (.cells (kv N) 27 true) := hD6
        by_cases hj1 : 1 ≤ j
        · have w3 : j < N.length := by omega
          have w4 : j - 1 < N.length := by omega
          have s3 := kv_at w3
          have s4 := kv_at w4
          have t4 : j < L.length := by omega
          have t5 : j - 1 < L.length := by omega
          have t6 : (listPut (kv N) (j) [.int .u32 (gi N (j - 1))]).length = L.length := (kvp_len w3).trans (by omega)
          have y3 := i64_pred (j := j) (by omega) (by omega)
          simp +contextual (disch := first | (simp only [facts, clsL, clsS, clsC, isPtrD]; done) | omega | (simp only [push_nx, put_nx, del_nx]; omega) | (refine Nat.le_antisymm ?_ ?_ <;> simp only [push_nx, put_nx, del_nx] <;> omega) | exact dok (by kernel_rfl)) only [draw_calm, draw_calmA, wpy, facts, wpb, cst, wpk, wpl, forall_const, implies_true, false_implies, Int.reduceLE, Int.reduceLT, Nat.reduceLeDiff, UInt8.reduceToNat, ↓reduceIte, Nat.reduceEqDiff, Nat.reduceAdd, reduceCtorEq, Int.reduceToNat, clsL, clsS, clsC, Try.f59, m0, m1, m2, m7, m8, m9, hj1, s3, s4, t4, t5, t6, hD6', kv_len, hl6, y3]
          refine callF_exact (less_spec hS _ _ _) ?_
          by_cases hls2 : gi N j < gi N (j - 1)
          · have haj : a < j := by
              by_cases hq : j = a
              · rcases pred_move hR6 hp with r | r
                · omega
                · have := r j (by omega) (by omega)
                  rw [← hq] at this
                  omega
              · omega
            simp +contextual (disch := first | (simp only [facts, clsL, clsS, clsC, isPtrD]; done) | omega | (simp only [push_nx, put_nx, del_nx]; omega) | (refine Nat.le_antisymm ?_ ?_ <;> simp only [push_nx, put_nx, del_nx] <;> omega) | exact dok (by kernel_rfl)) only [draw_calm, draw_calmA, wpy, facts, wpb, cst, wpk, wpl, forall_const, implies_true, false_implies, Int.reduceLE, Int.reduceLT, Nat.reduceLeDiff, UInt8.reduceToNat, ↓reduceIte, Nat.reduceEqDiff, Nat.reduceAdd, reduceCtorEq, Int.reduceToNat, clsL, clsS, clsC, Try.f59, m0, m1, m2, m7, m8, m9, hj1, s3, s4, t4, t5, t6, hD6', kv_len, hl6, y3, hls2]
            exact ⟨by omega, by omega, j - 1, by omega, j - 1, swp N j (j - 1), rfl, by omega, by omega, rfl, (hB6.put _).put _, swp_dat w3 w4, hR6.trans (RP.swp (by omega) (by omega) (by omega) (by omega) (by omega)), ins_step hI6 haj d2 (by omega) hls2⟩
          · simp +contextual (disch := first | (simp only [facts, clsL, clsS, clsC, isPtrD]; done) | omega | (simp only [push_nx, put_nx, del_nx]; omega) | (refine Nat.le_antisymm ?_ ?_ <;> simp only [push_nx, put_nx, del_nx] <;> omega) | exact dok (by kernel_rfl)) only [draw_calm, draw_calmA, wpy, facts, wpb, cst, wpk, wpl, forall_const, implies_true, false_implies, Int.reduceLE, Int.reduceLT, Nat.reduceLeDiff, UInt8.reduceToNat, ↓reduceIte, Nat.reduceEqDiff, Nat.reduceAdd, reduceCtorEq, Int.reduceToNat, clsL, clsS, clsC, Try.f59, m0, m1, m2, m7, m8, m9, hj1, s3, s4, t4, t5, t6, hD6', kv_len, hl6, y3, hls2]
            refine ⟨N, hB6, hD6, hR6, ?_⟩
            have := ins_end hI6 d1 d2 (.inr (by omega))
            rwa [show i - 1 + 1 = i by omega] at this
        · simp +contextual (disch := first | (simp only [facts, clsL, clsS, clsC, isPtrD]; done) | omega | (simp only [push_nx, put_nx, del_nx]; omega) | (refine Nat.le_antisymm ?_ ?_ <;> simp only [push_nx, put_nx, del_nx] <;> omega) | exact dok (by kernel_rfl)) only [draw_calm, draw_calmA, wpy, facts, wpb, cst, wpk, wpl, forall_const, implies_true, false_implies, Int.reduceLE, Int.reduceLT, Nat.reduceLeDiff, UInt8.reduceToNat, ↓reduceIte, Nat.reduceEqDiff, Nat.reduceAdd, reduceCtorEq, Int.reduceToNat, clsL, clsS, clsC, Try.f59, m0, m1, m2, m7, m8, m9, hj1]
          refine ⟨N, hB6, hD6, hR6, ?_⟩
          have := ins_end hI6 d1 d2 (.inl (by omega))
          rwa [show i - 1 + 1 = i by omega] at this
      rintro E7 H7 ⟨N, o0, o1, o2, o7, o8, hB7, hD7, hR7, hs7⟩
      by_cases hei : 2 ≤ e - i
      · simp +contextual (disch := first | (simp only [facts, clsL, clsS, clsC, isPtrD]; done) | omega | (simp only [push_nx, put_nx, del_nx]; omega) | (refine Nat.le_antisymm ?_ ?_ <;> simp only [push_nx, put_nx, del_nx] <;> omega) | fail) only [wpy, facts, wpb, cst, wpk, wpl, forall_const, implies_true, false_implies, Int.reduceLE, Int.reduceLT, Nat.reduceLeDiff, UInt8.reduceToNat, ↓reduceIte, Nat.reduceEqDiff, Nat.reduceAdd, reduceCtorEq, Int.reduceToNat, clsL, clsS, clsC, Try.f59, o0, o1, o2, o7, o8, z3, y2, hei]
        refine run_loop_end (fun E H => ∃ N : List Int, E 0 = .slice b 0 L.length L.length ∧ E 1 = .int .i64 a ∧ E 2 = .int .i64 e ∧ E 7 = .int .i64 i ∧ E 8 = .int .i64 (t : Nat) ∧ But b h H ∧ Dat H b N ∧ RP a e L N ∧ SR a i N) ?_ ?_
        · refine run_loop (fun k E H => ∃ (j : Nat) (N : List Int), k = e - j ∧ i + 1 ≤ j ∧ j ≤ e ∧ E 0 = .slice b 0 L.length L.length ∧ E 1 = .int .i64 a ∧ E 2 = .int .i64 e ∧ E 7 = .int .i64 i ∧ E 8 = .int .i64 (t : Nat) ∧ E 10 = .int .i64 j ∧ But b h H ∧ Dat H b N ∧ RP a e L N ∧ SR a i N) (e - (i + 1)) ⟨i + 1, N, ?_⟩ ?_
          · simp +contextual (disch := first | (simp only [facts, clsL, clsS, clsC, isPtrD]; done) | omega | (simp only [push_nx, put_nx, del_nx]; omega) | (refine Nat.le_antisymm ?_ ?_ <;> simp only [push_nx, put_nx, del_nx] <;> omega) | fail) only [wpy, facts, wpb, cst, wpk, wpl, forall_const, implies_true, false_implies, Int.reduceLE, Int.reduceLT, Nat.reduceLeDiff, UInt8.reduceToNat, ↓reduceIte, Nat.reduceEqDiff, Nat.reduceAdd, reduceCtorEq, Int.reduceToNat, clsL, clsS, clsC, o0, o1, o2, o7, o8]
            exact ⟨by omega, hB7, hD7, hR7, hs7⟩
          rintro k8 E8 H8 ⟨j, P, rfl, d1, d2, m0, m1, m2, m7, m8, m10, hB8, hD8, hR8, hs8⟩
          have hl8 : P.length = L.length := hR8.len
          have hD8' : H8.get b = some (.cells (kv P) 27 true) := hD8
          by_cases hje : j < e
          · have w3 : j < P.length := by omega
            have w4 : j - 1 < P.length := by omega
            have s3 := kv_at w3
            have s4 := kv_at w4
            have t4 : j < L.length := by omega
            have t5 : j - 1 < L.length := by omega
            have t6 : (listPut (kv P) (j) [.int .u32 (gi P (j - 1))]).length = L.length := (kvp_len w3).trans (by omega)
            have y3 := i64_pred (j := j) (by omega) (by omega)
            have y4 : j ≤ 9223372036854775806 := by omega
            simp +contextual (disch := first | (simp only [facts, clsL, clsS, clsC, isPtrD]; done) | omega | (simp only [push_nx, put_nx, del_nx]; omega) | (refine Nat.le_antisymm ?_ ?_ <;> simp only [push_nx, put_nx, del_nx] <;> omega) | exact dok (by kernel_rfl)) only [draw_calm, draw_calmA, wpy, facts, wpb, cst, wpk, wpl, forall_const, implies_true, false_implies, Int.reduceLE, Int.reduceLT, Nat.reduceLeDiff, UInt8.reduceToNat, ↓reduceIte, Nat.reduceEqDiff, Nat.reduceAdd, reduceCtorEq, Int.reduceToNat, clsL, clsS, clsC, Try.f59, m0, m1, m2, m7, m8, m10, hje, s3, s4, t4, t5, t6, hD8', kv_len, hl8, y3, y4]
            refine callF_exact (less_spec hS _ _ _) ?_
            by_cases hls2 : gi P j < gi P (j - 1)
            · simp +contextual (disch := first | (simp only [facts, clsL, clsS, clsC, isPtrD]; done) | omega | (simp only [push_nx, put_nx, del_nx]; omega) | (refine Nat.le_antisymm ?_ ?_ <;> simp only [push_nx, put_nx, del_nx] <;> omega) | exact dok (by kernel_rfl)) only [draw_calm, draw_calmA, wpy, facts, wpb, cst, wpk, wpl, forall_const, implies_true, false_implies, Int.reduceLE, Int.reduceLT, Nat.reduceLeDiff, UInt8.reduceToNat, ↓reduceIte, Nat.reduceEqDiff, Nat.reduceAdd, reduceCtorEq, Int.reduceToNat, clsL, clsS, clsC, Try.f59, m0, m1, m2, m7, m8, m10, hje, s3, s4, t4, t5, t6, hD8', kv_len, hl8, y3, y4, hls2]
              have hRs : RP i e P (swp P j (j - 1)) := RP.swp (by omega) (by omega) (by omega) (by omega) (by omega)
              exact ⟨by omega, by omega, e - (j + 1), by omega, j + 1, swp P j (j - 1), rfl, by omega, by omega, rfl, (hB8.put _).put _, swp_dat w3 w4, hR8.trans (hRs.wide (by omega) (Nat.le_refl _)), hs8.same fun k q1 q2 => hRs.out k (by omega)⟩
            · simp +contextual (disch := first | (simp only [facts, clsL, clsS, clsC, isPtrD]; done) | omega | (simp only [push_nx, put_nx, del_nx]; omega) | (refine Nat.le_antisymm ?_ ?_ <;> simp only [push_nx, put_nx, del_nx] <;> omega) | exact dok (by kernel_rfl)) only [draw_calm, draw_calmA, wpy, facts, wpb, cst, wpk, wpl, forall_const, implies_true, false_implies, Int.reduceLE, Int.reduceLT, Nat.reduceLeDiff, UInt8.reduceToNat, ↓reduceIte, Nat.reduceEqDiff, Nat.reduceAdd, reduceCtorEq, Int.reduceToNat, clsL, clsS, clsC, Try.f59, m0, m1, m2, m7, m8, m10, hje, s3, s4, t4, t5, t6, hD8', kv_len, hl8, y3, y4, hls2]
              exact ⟨P, hB8, hD8, hR8, hs8⟩
          · simp +contextual (disch := first | (simp only [facts, clsL, clsS, clsC, isPtrD]; done) | omega | (simp only [push_nx, put_nx, del_nx]; omega) | (refine Nat.le_antisymm ?_ ?_ <;> simp only [push_nx, put_nx, del_nx] <;> omega) | exact dok (by kernel_rfl)) only [draw_calm, draw_calmA, wpy, facts, wpb, cst, wpk, wpl, forall_const, implies_true, false_implies, Int.reduceLE, Int.reduceLT, Nat.reduceLeDiff, UInt8.reduceToNat, ↓reduceIte, Nat.reduceEqDiff, Nat.reduceAdd, reduceCtorEq, Int.reduceToNat, clsL, clsS, clsC, Try.f59, m0, m1, m2, m7, m8, m10, hje]
            exact ⟨P, hB8, hD8, hR8, hs8⟩
        rintro E9 H9 ⟨P, r0, r1, r2, r7, r8, hB9, hD9, hR9, hs9⟩
        simp +contextual (disch := first | (simp only [facts, clsL, clsS, clsC, isPtrD]; done) | omega | (simp only [push_nx, put_nx, del_nx]; omega) | (refine Nat.le_antisymm ?_ ?_ <;> simp only [push_nx, put_nx, del_nx] <;> omega) | fail) only [wpy, facts, wpb, cst, wpk, wpl, forall_const, implies_true, false_implies, Int.reduceLE, Int.reduceLT, Nat.reduceLeDiff, UInt8.reduceToNat, ↓reduceIte, Nat.reduceEqDiff, Nat.reduceAdd, reduceCtorEq, Int.reduceToNat, clsL, clsS, clsC, Try.f59, r0, r1, r2, r7, r8, z4]
        exact ⟨5 - (t + 1), by omega, t + 1, i, P, rfl, by omega, by omega, by omega, rfl, rfl, hB9, hD9, hR9, hs9⟩
      · simp +contextual (disch := first | (simp only [facts, clsL, clsS, clsC, isPtrD]; done) | omega | (simp only [push_nx, put_nx, del_nx]; omega) | (refine Nat.le_antisymm ?_ ?_ <;> simp only [push_nx, put_nx, del_nx] <;> omega) | fail) only [wpy, facts, wpb, cst, wpk, wpl, forall_const, implies_true, false_implies, Int.reduceLE, Int.reduceLT, Nat.reduceLeDiff, UInt8.reduceToNat, ↓reduceIte, Nat.reduceEqDiff, Nat.reduceAdd, reduceCtorEq, Int.reduceToNat, clsL, clsS, clsC, Try.f59, o0, o1, o2, o7, o8, z3, y2, hei, z4]
        exact ⟨5 - (t + 1), by omega, t + 1, i, N, rfl, by omega, by omega, by omega, rfl, rfl, hB7, hD7, hR7, hs7⟩
    · skip
      simp +contextual (disch := first | (simp only [facts, clsL, clsS, clsC, isPtrD]; done) | omega | (simp only [push_nx, put_nx, del_nx]; omega) | (refine Nat.le_antisymm ?_ ?_ <;> simp only [push_nx, put_nx, del_nx] <;> omega) | exact dok (by kernel_rfl)) only [draw_calm, draw_calmA, wpy, facts, wpb, cst, wpk, wpl, forall_const, implies_true, false_implies, Int.reduceLE, Int.reduceLT, Nat.reduceLeDiff, UInt8.reduceToNat, ↓reduceIte, Nat.reduceEqDiff, Nat.reduceAdd, reduceCtorEq, Int.reduceToNat, clsL, clsS, clsC, Try.f59, g0, g1, g2, g7, g8, hie, z1, h50, s1, s2, t1, t2, t3, hD4', kv_len, hl, y1, y2, z2, hia, z3, z4]
      rw [← hH5]
      refine ⟨by omega, by omega, fun hei => ?_, fun hei => ?_⟩
      · skip
        refine run_loop_end (fun E H => ∃ N : List Int, E 0 = .slice b 0 L.length L.length ∧ E 1 = .int .i64 a ∧ E 2 = .int .i64 e ∧ E 7 = .int .i64 i ∧ E 8 = .int .i64 (t : Nat) ∧ But b h H ∧ Dat H b N ∧ RP a e L N ∧ SR a i N) ?_ ?_
        · refine run_loop (fun k E H => ∃ (j : Nat) (N : List Int), k = e - j ∧ i + 1 ≤ j ∧ j ≤ e ∧ E 0 = .slice b 0 L.length L.length ∧ E 1 = .int .i64 a ∧ E 2 = .int .i64 e ∧ E 7 = .int .i64 i ∧ E 8 = .int .i64 (t : Nat) ∧ E 10 = .int .i64 j ∧ But b h H ∧ Dat H b N ∧ RP a e L N ∧ SR a i N) (e - (i + 1)) ⟨i + 1, swp M i (i - 1), ?_⟩ ?_
          · simp +contextual (disch := first | (simp only [facts, clsL, clsS, clsC, isPtrD]; done) | omega | (simp only [push_nx, put_nx, del_nx]; omega) | (refine Nat.le_antisymm ?_ ?_ <;> simp only [push_nx, put_nx, del_nx] <;> omega) | fail) only [wpy, facts, wpb, cst, wpk, wpl, forall_const, implies_true, false_implies, Int.reduceLE, Int.reduceLT, Nat.reduceLeDiff, UInt8.reduceToNat, ↓reduceIte, Nat.reduceEqDiff, Nat.reduceAdd, reduceCtorEq, Int.reduceToNat, clsL, clsS, clsC, g0, g1, g2, g7, g8]
            exact ⟨by omega, hB5, hD5, hR1, SR.small (by omega)⟩
          rintro k8 E8 H8 ⟨j, P, rfl, d1, d2, m0, m1, m2, m7, m8, m10, hB8, hD8, hR8, hs8⟩
          have hl8 : P.length = L.length := hR8.len
          have hD8' : H8.get b = some (.cells (kv P) 27 true) := hD8
          by_cases hje : j < e
          · have w3 : j < P.length := by omega
            have w4 : j - 1 < P.length := by omega
            have s3 := kv_at w3
            have s4 := kv_at w4
            have t4 : j < L.length := by omega
            have t5 : j - 1 < L.length := by omega
            have t6 : (listPut (kv P) (j) [.int .u32 (gi P (j - 1))]).length = L.length := (kvp_len w3).trans (by omega)
            have y3 := i64_pred (j := j) (by omega) (by omega)
            have y4 : j ≤ 9223372036854775806 := by omega
            simp +contextual (disch := first | (simp only [facts, clsL, clsS, clsC, isPtrD]; done) | omega | (simp only [push_nx, put_nx, del_nx]; omega) | (refine Nat.le_antisymm ?_ ?_ <;> simp only [push_nx, put_nx, del_nx] <;> omega) | exact dok (by kernel_rfl)) only [draw_calm, draw_calmA, wpy, facts, wpb, cst, wpk, wpl, forall_const, implies_true, false_implies, Int.reduceLE, Int.reduceLT, Nat.reduceLeDiff, UInt8.reduceToNat, ↓reduceIte, Nat.reduceEqDiff, Nat.reduceAdd, reduceCtorEq, Int.reduceToNat, clsL, clsS, clsC, Try.f59, m0, m1, m2, m7, m8, m10, hje, s3, s4, t4, t5, t6, hD8', kv_len, hl8, y3, y4]
            refine callF_exact (less_spec hS _ _ _) ?_
            by_cases hls2 : gi P j < gi P (j - 1)
            · simp +contextual (disch := first | (simp only [facts, clsL, clsS, clsC, isPtrD]; done) | omega | (simp only [push_nx, put_nx, del_nx]; omega) | (refine Nat.le_antisymm ?_ ?_ <;> simp only [push_nx, put_nx, del_nx] <;> omega) | exact dok (by kernel_rfl)) only [draw_calm, draw_calmA, wpy, facts, wpb, cst, wpk, wpl, forall_const, implies_true, false_implies, Int.reduceLE, Int.reduceLT, Nat.reduceLeDiff, UInt8.reduceToNat, ↓reduceIte, Nat.reduceEqDiff, Nat.reduceAdd, reduceCtorEq, Int.reduceToNat, clsL, clsS, clsC, Try.f59, m0, m1, m2, m7, m8, m10, hje, s3, s4, t4, t5, t6, hD8', kv_len, hl8, y3, y4, hls2]
              have hRs : RP i e P (swp P j (j - 1)) := RP.swp (by omega) (by omega) (by omega) (by omega) (by omega)
              exact ⟨by omega, by omega, e - (j + 1), by omega, j + 1, swp P j (j - 1), rfl, by omega, by omega, rfl, (hB8.put _).put _, swp_dat w3 w4, hR8.trans (hRs.wide (by omega) (Nat.le_refl _)), hs8.same fun k q1 q2 => hRs.out k (by omega)⟩
            · simp +contextual (disch := first | (simp only [facts, clsL, clsS, clsC, isPtrD]; done) | omega | (simp only [push_nx, put_nx, del_nx]; omega) | (refine Nat.le_antisymm ?_ ?_ <;> simp only [push_nx, put_nx, del_nx] <;> omega) | exact dok (by kernel_rfl)) only [draw_calm, draw_calmA, wpy, facts, wpb, cst, wpk, wpl, forall_const, implies_true, false_implies, Int.reduceLE, Int.reduceLT, Nat.reduceLeDiff, UInt8.reduceToNat, ↓reduceIte, Nat.reduceEqDiff, Nat.reduceAdd, reduceCtorEq, Int.reduceToNat, clsL, clsS, clsC, Try.f59, m0, m1, m2, m7, m8, m10, hje, s3, s4, t4, t5, t6, hD8', kv_len, hl8, y3, y4, hls2]
              exact ⟨P, hB8, hD8, hR8, hs8⟩
          · simp +contextual (disch := first | (simp only [facts, clsL, clsS, clsC, isPtrD]; done) | omega | (simp only [push_nx, put_nx, del_nx]; omega) | (refine Nat.le_antisymm ?_ ?_ <;> simp only [push_nx, put_nx, del_nx] <;> omega) | exact dok (by kernel_rfl)) only [draw_calm, draw_calmA, wpy, facts, wpb, cst, wpk, wpl, forall_const, implies_true, false_implies, Int.reduceLE, Int.reduceLT, Nat.reduceLeDiff, UInt8.reduceToNat, ↓reduceIte, Nat.reduceEqDiff, Nat.reduceAdd, reduceCtorEq, Int.reduceToNat, clsL, clsS, clsC, Try.f59, m0, m1, m2, m7, m8, m10, hje]
            exact ⟨P, hB8, hD8, hR8, hs8⟩
        rintro E9 H9 ⟨P, r0, r1, r2, r7, r8, hB9, hD9, hR9, hs9⟩
        simp +contextual (disch := first | (simp only [facts, clsL, clsS, clsC, isPtrD]; done) | omega | (simp only [push_nx, put_nx, del_nx]; omega) | (refine Nat.le_antisymm ?_ ?_ <;> simp only [push_nx, put_nx, del_nx] <;> omega) | fail) only [wpy, facts, wpb, cst, wpk, wpl, forall_const, implies_true, false_implies, Int.reduceLE, Int.reduceLT, Nat.reduceLeDiff, UInt8.reduceToNat, ↓reduceIte, Nat.reduceEqDiff, Nat.reduceAdd, reduceCtorEq, Int.reduceToNat, clsL, clsS, clsC, Try.f59, r0, r1, r2, r7, r8, z4]
        exact ⟨5 - (t + 1), by omega, t + 1, i, P, rfl, by omega, by omega, by omega, rfl, rfl, hB9, hD9, hR9, hs9⟩
      · exact ⟨5 - (t + 1), by omega, t + 1, i, swp M i (i - 1), rfl, by omega, by omega, by omega, rfl, rfl, hB5, hD5, hR1, SR.small (by omega)⟩
  · simp +contextual (disch := first | (simp only [facts, clsL, clsS, clsC, isPtrD]; done) | omega | (simp only [push_nx, put_nx, del_nx]; omega) | (refine Nat.le_antisymm ?_ ?_ <;> simp only [push_nx, put_nx, del_nx] <;> omega) | fail) only [wpy, facts, wpb, cst, wpk, wpl, forall_const, implies_true, false_implies, Int.reduceLE, Int.reduceLT, Nat.reduceLeDiff, UInt8.reduceToNat, ↓reduceIte, Nat.reduceEqDiff, Nat.reduceAdd, reduceCtorEq, Int.reduceToNat, clsL, clsS, clsC, Try.f59, n0, n1, n2, n7, n8, ht5]
    exact ⟨False, rfl, hB, M, hD, hR, fun q => q.elim⟩
end
noncomputable section
def Cnt (h : H) (r : Nat) : Prop := ∃ s : Int, h.get r = some (.cells [.int .i64 s] 3 false)
variable {S : Set0} (hS : StdS S)
include hS
theorem ord2_spec (b r i j : Nat) (L : List Int) (h : H) (hi : i < L.length) (hj : j < L.length) (hn : L.length < 2 ^ 40) (hb : b < h.nx) (hr : r < h.nx) (hbr : b ≠ r) (hd : Dat h b L) (hc : Cnt h r) : callW S.cfg (fun k => k = r) 71 [.slice b 0 L.length L.length, .int .i64 i, .int .i64 j, .ptr r 0] h fun v h' => ∃ x y : Nat, v = .tuple [.int .i64 x, .int .i64 y] ∧ ((x = i ∧ y = j) ∨ (x = j ∧ y = i)) ∧ But r h h' ∧ Cnt h' r := by
  refine into Try.f71 _ Try.func71 (hS.ownS _ (by decide)) rfl rfl (by kernel_rfl) (by kernel_rfl) ?_
  obtain ⟨s, hs⟩ := hc
  have hd' : h.get b = some (.cells (kv L) 27 true) := hd
  have k1 := kv_at hi
  have k2 := kv_at hj
  simp +contextual (disch := first | (simp only [facts, clsL, clsS, clsC, isPtrD]; done) | omega | (simp only [push_nx, put_nx, del_nx]; omega) | (refine Nat.le_antisymm ?_ ?_ <;> simp only [push_nx, put_nx, del_nx] <;> omega) | exact dok (by kernel_rfl)) only [draw_calm, draw_calmA, wpy, facts, wpb, cst, wpk, wpl, forall_const, implies_true, false_implies, Int.reduceLE, Int.reduceLT, Nat.reduceLeDiff, UInt8.reduceToNat, ↓reduceIte, Nat.reduceEqDiff, Nat.reduceAdd, reduceCtorEq, Int.reduceToNat, clsL, clsS, clsC, Try.f71, hd', k1, k2, hi, hj]
  refine callF_exact (less_spec hS _ _ _) ?_
  by_cases hls : gi L j < gi L i
  · simp +contextual (disch := first | (simp only [facts, clsL, clsS, clsC, isPtrD]; done) | omega | (simp only [push_nx, put_nx, del_nx]; omega) | (refine Nat.le_antisymm ?_ ?_ <;> simp only [push_nx, put_nx, del_nx] <;> omega) | exact dok (by kernel_rfl)) only [draw_calm, draw_calmA, wpy, facts, wpb, cst, wpk, wpl, forall_const, implies_true, false_implies, Int.reduceLE, Int.reduceLT, Nat.reduceLeDiff, UInt8.reduceToNat, ↓reduceIte, Nat.reduceEqDiff, Nat.reduceAdd, reduceCtorEq, Int.reduceToNat, clsL, clsS, clsC, Try.f71, hd', k1, k2, hi, hj, hls, hs]
    exact ⟨j, i, rfl, .inr ⟨rfl, rfl⟩, (But.refl _ _).put _, _, put_eq rfl⟩
  · simp +contextual (disch := first | (simp only [facts, clsL, clsS, clsC, isPtrD]; done) | omega | (simp only [push_nx, put_nx, del_nx]; omega) | (refine Nat.le_antisymm ?_ ?_ <;> simp only [push_nx, put_nx, del_nx] <;> omega) | exact dok (by kernel_rfl)) only [draw_calm, draw_calmA, wpy, facts, wpb, cst, wpk, wpl, forall_const, implies_true, false_implies, Int.reduceLE, Int.reduceLT, Nat.reduceLeDiff, UInt8.reduceToNat, ↓reduceIte, Nat.reduceEqDiff, Nat.reduceAdd, reduceCtorEq, Int.reduceToNat, clsL, clsS, clsC, Try.f71, hd', k1, k2, hi, hj, hls, hs]
    exact ⟨i, j, rfl, .inl ⟨rfl, rfl⟩, But.refl _ _, _, hs⟩
theorem med_spec (b r i j k : Nat) (L : List Int) (h : H) (hi : i < L.length) (hj : j < L.length) (hk : k < L.length) (hn : L.length < 2 ^ 40) (hb : b < h.nx) (hr : r < h.nx) (hbr : b ≠ r) (hd : Dat h b L) (hc : Cnt h r) : callW S.cfg (fun k => k = r) 69 [.slice b 0 L.length L.length, .int .i64 i, .int .i64 j, .int .i64 k, .ptr r 0] h fun v h' => ∃ m : Nat, v = .int .i64 m ∧ (m = i ∨ m = j ∨ m = k) ∧ But r h h' ∧ Cnt h' r := by
  refine into Try.f69 _ Try.func69 (hS.ownS _ (by decide)) rfl rfl (by kernel_rfl) (by kernel_rfl) ?_
  simp +contextual (disch := first | (simp only [facts, clsL, clsS, clsC, isPtrD]; done) | omega | (simp only [push_nx, put_nx, del_nx]; omega) | (refine Nat.le_antisymm ?_ ?_ <;> simp only [push_nx, put_nx, del_nx] <;> omega) | fail) only [wpy, facts, wpb, cst, wpk, wpl, forall_const, implies_true, false_implies, Int.reduceLE, Int.reduceLT, Nat.reduceLeDiff, UInt8.reduceToNat, ↓reduceIte, Nat.reduceEqDiff, Nat.reduceAdd, reduceCtorEq, Int.reduceToNat, clsL, clsS, clsC, Try.f69]
  refine callF_of (ord2_spec hS b r i j L h hi hj hn hb hr hbr hd hc) (fun k q => by rw [fresh_def]; exact .inr q) ?_
  rintro v1 h1 ⟨x1, y1, rfl, o1, hB1, hc1⟩
  have hb1 : b < h1.nx := Nat.lt_of_lt_of_le hb hB1.1
  have hr1 : r < h1.nx := Nat.lt_of_lt_of_le hr hB1.1
  have hd1 : Dat h1 b L := by unfold Dat; rw [hB1.2 b hb hbr]; exact hd
  simp +contextual (disch := first | (simp only [facts, clsL, clsS, clsC, isPtrD]; done) | omega | (simp only [push_nx, put_nx, del_nx]; omega) | (refine Nat.le_antisymm ?_ ?_ <;> simp only [push_nx, put_nx, del_nx] <;> omega) | fail) only [wpy, facts, wpb, cst, wpk, wpl, forall_const, implies_true, false_implies, Int.reduceLE, Int.reduceLT, Nat.reduceLeDiff, UInt8.reduceToNat, ↓reduceIte, Nat.reduceEqDiff, Nat.reduceAdd, reduceCtorEq, Int.reduceToNat, clsL, clsS, clsC, Try.f69]
  refine callF_of (ord2_spec hS b r y1 k L h1 (by rcases o1 with q | q <;> omega) hk hn hb1 hr1 hbr hd1 hc1) (fun k q => by rw [fresh_def]; exact .inr q) ?_
  rintro v2 h2 ⟨x2, y2, rfl, o2, hB2, hc2⟩
  have hb2 : b < h2.nx := Nat.lt_of_lt_of_le hb1 hB2.1
  have hr2 : r < h2.nx := Nat.lt_of_lt_of_le hr1 hB2.1
  have hd2 : Dat h2 b L := by unfold Dat; rw [hB2.2 b hb1 hbr]; exact hd1
  simp +contextual (disch := first | (simp only [facts, clsL, clsS, clsC, isPtrD]; done) | omega | (simp only [push_nx, put_nx, del_nx]; omega) | (refine Nat.le_antisymm ?_ ?_ <;> simp only [push_nx, put_nx, del_nx] <;> omega) | fail) only [wpy, facts, wpb, cst, wpk, wpl, forall_const, implies_true, false_implies, Int.reduceLE, Int.reduceLT, Nat.reduceLeDiff, UInt8.reduceToNat, ↓reduceIte, Nat.reduceEqDiff, Nat.reduceAdd, reduceCtorEq, Int.reduceToNat, clsL, clsS, clsC, Try.f69]
  refine callF_of (ord2_spec hS b r x1 x2 L h2 (by rcases o1 with q | q <;> omega) (by rcases o1 with q | q <;> rcases o2 with q2 | q2 <;> omega) hn hb2 hr2 hbr hd2 hc2) (fun k q => by rw [fresh_def]; exact .inr q) ?_
  rintro v3 h3 ⟨x3, y3, rfl, o3, hB3, hc3⟩
  simp +contextual (disch := first | (simp only [facts, clsL, clsS, clsC, isPtrD]; done) | omega | (simp only [push_nx, put_nx, del_nx]; omega) | (refine Nat.le_antisymm ?_ ?_ <;> simp only [push_nx, put_nx, del_nx] <;> omega) | fail) only [wpy, facts, wpb, cst, wpk, wpl, forall_const, implies_true, false_implies, Int.reduceLE, Int.reduceLT, Nat.reduceLeDiff, UInt8.reduceToNat, ↓reduceIte, Nat.reduceEqDiff, Nat.reduceAdd, reduceCtorEq, Int.reduceToNat, clsL, clsS, clsC, Try.f69]
  exact ⟨y3, rfl, by rcases o1 with q | q <;> rcases o2 with q2 | q2 <;> rcases o3 with q3 | q3 <;> omega, hB1.trans (hB2.trans hB3), hc3⟩
theorem medadj_spec (b r i : Nat) (L : List Int) (h : H) (h0 : 0 < i) (hi : i + 1 < L.length) (hn : L.length < 2 ^ 40) (hb : b < h.nx) (hr : r < h.nx) (hbr : b ≠ r) (hd : Dat h b L) (hc : Cnt h r) : callW S.cfg (fun k => k = r) 68 [.slice b 0 L.length L.length, .int .i64 i, .ptr r 0] h fun v h' => ∃ m : Nat, v = .int .i64 m ∧ i - 1 ≤ m ∧ m ≤ i + 1 ∧ But r h h' ∧ Cnt h' r := by
  refine into Try.f68 _ Try.func68 (hS.ownS _ (by decide)) rfl rfl (by kernel_rfl) (by kernel_rfl) ?_
  have y1 := i64_pred (j := i) (by omega) (by omega)
  have y2 : i ≤ 9223372036854775806 := by omega
  simp +contextual (disch := first | (simp only [facts, clsL, clsS, clsC, isPtrD]; done) | omega | (simp only [push_nx, put_nx, del_nx]; omega) | (refine Nat.le_antisymm ?_ ?_ <;> simp only [push_nx, put_nx, del_nx] <;> omega) | fail) only [wpy, facts, wpb, cst, wpk, wpl, forall_const, implies_true, false_implies, Int.reduceLE, Int.reduceLT, Nat.reduceLeDiff, UInt8.reduceToNat, ↓reduceIte, Nat.reduceEqDiff, Nat.reduceAdd, reduceCtorEq, Int.reduceToNat, clsL, clsS, clsC, Try.f68, y1, y2]
  refine callF_of (med_spec hS b r (i - 1) i (i + 1) L h (by omega) (by omega) hi hn hb hr hbr hd hc) (fun k q => by rw [fresh_def]; exact .inr q) ?_
  rintro v1 h1 ⟨m, rfl, o1, hB1, hc1⟩
  simp +contextual (disch := first | (simp only [facts, clsL, clsS, clsC, isPtrD]; done) | omega | (simp only [push_nx, put_nx, del_nx]; omega) | (refine Nat.le_antisymm ?_ ?_ <;> simp only [push_nx, put_nx, del_nx] <;> omega) | fail) only [wpy, facts, wpb, cst, wpk, wpl, forall_const, implies_true, false_implies, Int.reduceLE, Int.reduceLT, Nat.reduceLeDiff, UInt8.reduceToNat, ↓reduceIte, Nat.reduceEqDiff, Nat.reduceAdd, reduceCtorEq, Int.reduceToNat, clsL, clsS, clsC, Try.f68]
  exact ⟨m, rfl, by omega, by omega, hB1, hc1⟩
theorem piv_spec (b a e : Nat) (L : List Int) (h : H) (ha : a + 13 ≤ e) (he : e ≤ L.length) (hn : L.length < 2 ^ 40) (hb : b < h.nx) (hd : Dat h b L) : Pure S.cfg 57 [.slice b 0 L.length L.length, .int .i64 a, .int .i64 e] h fun v h' => ∃ (m : Nat) (t : Int), v = .tuple [.int .i64 m, .int .i64 t] ∧ a ≤ m ∧ m < e := by
  refine into Try.f57 _ Try.func57 (hS.ownS _ (by decide)) rfl rfl (by kernel_rfl) (by kernel_rfl) ?_
  obtain ⟨l, rfl⟩ : ∃ l, e = a + l := ⟨e - a, by omega⟩
  have z1 : IntKind.i64.wrap (((a + l : Nat) : Int) - (a : Nat)) = ((l : Nat) : Int) := by rw [i64_in _ (by omega)]; omega
  have z3 : Int.tdiv ((l : Nat) : Int) 4 = ((l / 4 : Nat) : Int) := rfl
  have z4 : IntKind.i64.wrap ((l / 4 : Nat) : Int) = ((l / 4 : Nat) : Int) := i64_in _ (by omega)
  have z5 : ((4 : Int) = 0) = False := eq_false (by decide)
  have z6 : IntKind.i64.wrap (((l / 4 : Nat) : Int) * 1) = ((l / 4 : Nat) : Int) := by rw [i64_in _ (by omega)]; omega
  have z7 : IntKind.i64.wrap (((l / 4 : Nat) : Int) * 2) = ((l / 4 * 2 : Nat) : Int) := by rw [i64_in _ (by omega)]; omega
  have z8 : IntKind.i64.wrap (((l / 4 : Nat) : Int) * 3) = ((l / 4 * 3 : Nat) : Int) := by rw [i64_in _ (by omega)]; omega
  have z9 : a + l / 4 ≤ 9223372036854775807 := by omega
  have z10 : a + l / 4 * 2 ≤ 9223372036854775807 := by omega
  have z11 : a + l / 4 * 3 ≤ 9223372036854775807 := by omega
  have c8 : 8 ≤ l := by omega
  have hbr : b ≠ h.nx := by omega
  have hX : Ext h (h.push (.cells [.int .i64 0] 3 false)) := (Ext.refl h).push _
  have hd1 : Dat (h.push (.cells [.int .i64 0] 3 false)) b L := by unfold Dat; rw [push_ne hbr]; exact hd
  have hc1 : Cnt (h.push (.cells [.int .i64 0] 3 false)) h.nx := ⟨0, push_eq rfl⟩
  have hb1 : b < (h.push (.cells [.int .i64 0] 3 false)).nx := Nat.lt_succ_of_lt hb
  have hr1 : h.nx < (h.push (.cells [.int .i64 0] 3 false)).nx := Nat.lt_succ_self _
  have toX : ∀ h', But h.nx (h.push (.cells [.int .i64 0] 3 false)) h' → Ext h h' := fun h' q => ⟨by have : h.nx + 1 ≤ h'.nx := q.1; omega, fun k hk => by rw [q.2 k (Nat.lt_succ_of_lt hk) (by omega), push_ne (by omega)]⟩
  have hb1 : b < (h.push (.cells [.int .i64 0] 3 false)).nx := Nat.lt_succ_of_lt hb
  have hr1 : h.nx < (h.push (.cells [.int .i64 0] 3 false)).nx := Nat.lt_succ_self _
  have toX : ∀ h', But h.nx (h.push (.cells [.int .i64 0] 3 false)) h' → Ext h h' := fun h' q => ⟨by have : h.nx + 1 ≤ h'.nx := q.1; omega, fun k hk => by rw [q.2 k (Nat.lt_succ_of_lt hk) (by omega), push_ne (by omega)]⟩
  by_cases c50 : 50 ≤ l
  · simp +contextual (disch := first | (simp only [facts, clsL, clsS, clsC, isPtrD]; done) | omega | (simp only [push_nx, put_nx, del_nx]; omega) | (refine Nat.le_antisymm ?_ ?_ <;> simp only [push_nx, put_nx, del_nx] <;> omega) | fail) only [wpy, facts, wpb, cst, wpk, wpl, forall_const, implies_true, false_implies, Int.reduceLE, Int.reduceLT, Nat.reduceLeDiff, UInt8.reduceToNat, ↓reduceIte, Nat.reduceEqDiff, Nat.reduceAdd, reduceCtorEq, Int.reduceToNat, clsL, clsS, clsC, Try.f57, z1, z3, z4, z5, z6, z7, z8, z9, z10, z11, c8, c50]
    refine callF_of (medadj_spec hS b h.nx (a + l / 4) L _ (by omega) (by omega) hn hb1 hr1 hbr hd1 hc1) (fun k q => by rw [fresh_def]; exact .inl (by omega)) ?_
    rintro v h2 ⟨m1, rfl, l1, u1, hB2, hc2⟩
    have hb2 : b < h2.nx := Nat.lt_of_lt_of_le hb1 hB2.1
    have hr2 : h.nx < h2.nx := Nat.lt_of_lt_of_le hr1 hB2.1
    have hd2 : Dat h2 b L := by unfold Dat; rw [hB2.2 b hb1 hbr]; exact hd1
    simp +contextual (disch := first | (simp only [facts, clsL, clsS, clsC, isPtrD]; done) | omega | (simp only [push_nx, put_nx, del_nx]; omega) | (refine Nat.le_antisymm ?_ ?_ <;> simp only [push_nx, put_nx, del_nx] <;> omega) | fail) only [wpy, facts, wpb, cst, wpk, wpl, forall_const, implies_true, false_implies, Int.reduceLE, Int.reduceLT, Nat.reduceLeDiff, UInt8.reduceToNat, ↓reduceIte, Nat.reduceEqDiff, Nat.reduceAdd, reduceCtorEq, Int.reduceToNat, clsL, clsS, clsC, Try.f57, z1, z3, z4, z5, z6, z7, z8, z9, z10, z11, c8, c50]
    refine callF_of (medadj_spec hS b h.nx (a + l / 4 * 2) L _ (by omega) (by omega) hn hb2 hr2 hbr hd2 hc2) (fun k q => by rw [fresh_def]; exact .inl (by omega)) ?_
    rintro v h3 ⟨m2, rfl, l2, u2, hB3, hc3⟩
    have hb3 : b < h3.nx := Nat.lt_of_lt_of_le hb2 hB3.1
    have hr3 : h.nx < h3.nx := Nat.lt_of_lt_of_le hr2 hB3.1
    have hd3 : Dat h3 b L := by unfold Dat; rw [hB3.2 b hb2 hbr]; exact hd2
    simp +contextual (disch := first | (simp only [facts, clsL, clsS, clsC, isPtrD]; done) | omega | (simp only [push_nx, put_nx, del_nx]; omega) | (refine Nat.le_antisymm ?_ ?_ <;> simp only [push_nx, put_nx, del_nx] <;> omega) | fail) only [wpy, facts, wpb, cst, wpk, wpl, forall_const, implies_true, false_implies, Int.reduceLE, Int.reduceLT, Nat.reduceLeDiff, UInt8.reduceToNat, ↓reduceIte, Nat.reduceEqDiff, Nat.reduceAdd, reduceCtorEq, Int.reduceToNat, clsL, clsS, clsC, Try.f57, z1, z3, z4, z5, z6, z7, z8, z9, z10, z11, c8, c50]
    refine callF_of (medadj_spec hS b h.nx (a + l / 4 * 3) L _ (by omega) (by omega) hn hb3 hr3 hbr hd3 hc3) (fun k q => by rw [fresh_def]; exact .inl (by omega)) ?_
    rintro v h4 ⟨m3, rfl, l3, u3, hB4, hc4⟩
    have hb4 : b < h4.nx := Nat.lt_of_lt_of_le hb3 hB4.1
    have hr4 : h.nx < h4.nx := Nat.lt_of_lt_of_le hr3 hB4.1
    have hd4 : Dat h4 b L := by unfold Dat; rw [hB4.2 b hb3 hbr]; exact hd3
    simp +contextual (disch := first | (simp only [facts, clsL, clsS, clsC, isPtrD]; done) | omega | (simp only [push_nx, put_nx, del_nx]; omega) | (refine Nat.le_antisymm ?_ ?_ <;> simp only [push_nx, put_nx, del_nx] <;> omega) | fail) only [wpy, facts, wpb, cst, wpk, wpl, forall_const, implies_true, false_implies, Int.reduceLE, Int.reduceLT, Nat.reduceLeDiff, UInt8.reduceToNat, ↓reduceIte, Nat.reduceEqDiff, Nat.reduceAdd, reduceCtorEq, Int.reduceToNat, clsL, clsS, clsC, Try.f57, z1, z3, z4, z5, z6, z7, z8, z9, z10, z11, c8, c50]
    refine callF_of (med_spec hS b h.nx m1 m2 m3 L _ (by omega) (by omega) (by omega) hn hb4 hr4 hbr hd4 hc4) (fun k q => by rw [fresh_def]; exact .inl (by omega)) ?_
    rintro v h5 ⟨m4, rfl, o4, hB5, hcF⟩
    have hXF := toX _ (hB2.trans (hB3.trans (hB4.trans hB5)))
    obtain ⟨s, hs⟩ := hcF
    by_cases s0 : s = 0
    · subst s0
      simp +contextual (disch := first | (simp only [facts, clsL, clsS, clsC, isPtrD]; done) | omega | (simp only [push_nx, put_nx, del_nx]; omega) | (refine Nat.le_antisymm ?_ ?_ <;> simp only [push_nx, put_nx, del_nx] <;> omega) | fail) only [wpy, facts, wpb, cst, wpk, wpl, forall_const, implies_true, false_implies, Int.reduceLE, Int.reduceLT, Nat.reduceLeDiff, UInt8.reduceToNat, ↓reduceIte, Nat.reduceEqDiff, Nat.reduceAdd, reduceCtorEq, Int.reduceToNat, clsL, clsS, clsC, Try.f57, z1, z3, z4, z5, z6, z7, z8, z9, z10, z11, c8, c50, hs]
      exact ⟨hXF, m4, 1, rfl, by omega, by omega⟩
    by_cases s12 : s = 12
    · subst s12
      simp +contextual (disch := first | (simp only [facts, clsL, clsS, clsC, isPtrD]; done) | omega | (simp only [push_nx, put_nx, del_nx]; omega) | (refine Nat.le_antisymm ?_ ?_ <;> simp only [push_nx, put_nx, del_nx] <;> omega) | fail) only [wpy, facts, wpb, cst, wpk, wpl, forall_const, implies_true, false_implies, Int.reduceLE, Int.reduceLT, Nat.reduceLeDiff, UInt8.reduceToNat, ↓reduceIte, Nat.reduceEqDiff, Nat.reduceAdd, reduceCtorEq, Int.reduceToNat, clsL, clsS, clsC, Try.f57, z1, z3, z4, z5, z6, z7, z8, z9, z10, z11, c8, c50, hs]
      exact ⟨fun q => absurd q (by decide), fun _ => ⟨hXF, m4, 2, rfl, by omega, by omega⟩⟩
    · simp +contextual (disch := first | (simp only [facts, clsL, clsS, clsC, isPtrD]; done) | omega | (simp only [push_nx, put_nx, del_nx]; omega) | (refine Nat.le_antisymm ?_ ?_ <;> simp only [push_nx, put_nx, del_nx] <;> omega) | fail) only [wpy, facts, wpb, cst, wpk, wpl, forall_const, implies_true, false_implies, Int.reduceLE, Int.reduceLT, Nat.reduceLeDiff, UInt8.reduceToNat, ↓reduceIte, Nat.reduceEqDiff, Nat.reduceAdd, reduceCtorEq, Int.reduceToNat, clsL, clsS, clsC, Try.f57, z1, z3, z4, z5, z6, z7, z8, z9, z10, z11, c8, c50, hs, s0, s12]
      exact ⟨hXF, m4, 0, rfl, by omega, by omega⟩
  · simp +contextual (disch := first | (simp only [facts, clsL, clsS, clsC, isPtrD]; done) | omega | (simp only [push_nx, put_nx, del_nx]; omega) | (refine Nat.le_antisymm ?_ ?_ <;> simp only [push_nx, put_nx, del_nx] <;> omega) | fail) only [wpy, facts, wpb, cst, wpk, wpl, forall_const, implies_true, false_implies, Int.reduceLE, Int.reduceLT, Nat.reduceLeDiff, UInt8.reduceToNat, ↓reduceIte, Nat.reduceEqDiff, Nat.reduceAdd, reduceCtorEq, Int.reduceToNat, clsL, clsS, clsC, Try.f57, z1, z3, z4, z5, z6, z7, z8, z9, z10, z11, c8, c50]
    refine callF_of (med_spec hS b h.nx (a + l / 4) (a + l / 4 * 2) (a + l / 4 * 3) L _ (by omega) (by omega) (by omega) hn hb1 hr1 hbr hd1 hc1) (fun k q => by rw [fresh_def]; exact .inl (by omega)) ?_
    rintro v h5 ⟨m4, rfl, o4, hB5, hcF⟩
    have hXF := toX _ hB5
    obtain ⟨s, hs⟩ := hcF
    by_cases s0 : s = 0
    · subst s0
      simp +contextual (disch := first | (simp only [facts, clsL, clsS, clsC, isPtrD]; done) | omega | (simp only [push_nx, put_nx, del_nx]; omega) | (refine Nat.le_antisymm ?_ ?_ <;> simp only [push_nx, put_nx, del_nx] <;> omega) | fail) only [wpy, facts, wpb, cst, wpk, wpl, forall_const, implies_true, false_implies, Int.reduceLE, Int.reduceLT, Nat.reduceLeDiff, UInt8.reduceToNat, ↓reduceIte, Nat.reduceEqDiff, Nat.reduceAdd, reduceCtorEq, Int.reduceToNat, clsL, clsS, clsC, Try.f57, z1, z3, z4, z5, z6, z7, z8, z9, z10, z11, c8, c50, hs]
      exact ⟨hXF, m4, 1, rfl, by omega, by omega⟩
    by_cases s12 : s = 12
    · subst s12
      simp +contextual (disch := first | (simp only [facts, clsL, clsS, clsC, isPtrD]; done) | omega | (simp only [push_nx, put_nx, del_nx]; omega) | (refine Nat.le_antisymm ?_ ?_ <;> simp only [push_nx, put_nx, del_nx] <;> omega) | fail) only [wpy, facts, wpb, cst, wpk, wpl, forall_const, implies_true, false_implies, Int.reduceLE, Int.reduceLT, Nat.reduceLeDiff, UInt8.reduceToNat, ↓reduceIte, Nat.reduceEqDiff, Nat.reduceAdd, reduceCtorEq, Int.reduceToNat, clsL, clsS, clsC, Try.f57, z1, z3, z4, z5, z6, z7, z8, z9, z10, z11, c8, c50, hs]
      exact ⟨fun q => absurd q (by decide), fun _ => ⟨hXF, m4, 2, rfl, by omega, by omega⟩⟩
    · simp +contextual (disch := first | (simp only [facts, clsL, clsS, clsC, isPtrD]; done) | omega | (simp only [push_nx, put_nx, del_nx]; omega) | (refine Nat.le_antisymm ?_ ?_ <;> simp only [push_nx, put_nx, del_nx] <;> omega) | fail) only [wpy, facts, wpb, cst, wpk, wpl, forall_const, implies_true, false_implies, Int.reduceLE, Int.reduceLT, Nat.reduceLeDiff, UInt8.reduceToNat, ↓reduceIte, Nat.reduceEqDiff, Nat.reduceAdd, reduceCtorEq, Int.reduceToNat, clsL, clsS, clsC, Try.f57, z1, z3, z4, z5, z6, z7, z8, z9, z10, z11, c8, c50, hs, s0, s12]
      exact ⟨hXF, m4, 0, rfl, by omega, by omega⟩
end
noncomputable section
variable {S : Set0} (hS : StdS S)
include hS
theorem next_spec (r : Nat) (x : Int) (h : H) (hr : r < h.nx) (hc : h.get r = some (.cells [.int .u64 x] 93 false)) : callW S.cfg (fun k => k = r) 67 [.ptr r 0] h fun v h' => ∃ y : Int, v = .int .u64 y ∧ But r h h' ∧ h'.get r = some (.cells [.int .u64 y] 93 false) := by
  refine into Try.f67 _ Try.func67 (hS.ownS _ (by decide)) rfl rfl (by kernel_rfl) (by kernel_rfl) ?_
  simp +contextual (disch := first | (simp only [facts, clsL, clsS, clsC, isPtrD]; done) | omega | (simp only [push_nx, put_nx, del_nx]; omega) | (refine Nat.le_antisymm ?_ ?_ <;> simp only [push_nx, put_nx, del_nx] <;> omega) | exact dok (by kernel_rfl)) only [draw_calm, draw_calmA, wpy, facts, wpb, cst, wpk, wpl, forall_const, implies_true, false_implies, Int.reduceLE, Int.reduceLT, Nat.reduceLeDiff, UInt8.reduceToNat, ↓reduceIte, Nat.reduceEqDiff, Nat.reduceAdd, reduceCtorEq, Int.reduceToNat, clsL, clsS, clsC, Try.f67, hc]
  exact ⟨_, rfl, ((But.refl _ _).put _).put _ |>.put _, rfl⟩
omit hS in
def lenTab : List Nat := [0, 1, 2, 2, 3, 3, 3, 3, 4, 4, 4, 4, 4, 4, 4, 4, 5, 5, 5, 5, 5, 5, 5, 5, 5, 5, 5, 5, 5, 5, 5, 5, 6, 6, 6, 6, 6, 6, 6, 6, 6, 6, 6, 6, 6, 6, 6, 6, 6, 6, 6, 6, 6, 6, 6, 6, 6, 6, 6, 6, 6, 6, 6, 6, 7, 7, 7, 7, 7, 7, 7, 7, 7, 7, 7, 7, 7, 7, 7, 7, 7, 7, 7, 7, 7, 7, 7, 7, 7, 7, 7, 7, 7, 7, 7, 7, 7, 7, 7, 7, 7, 7, 7, 7, 7, 7, 7, 7, 7, 7, 7, 7, 7, 7, 7, 7, 7, 7, 7, 7, 7, 7, 7, 7, 7, 7, 7, 7, 8, 8, 8, 8, 8, 8, 8, 8, 8, 8, 8, 8, 8, 8, 8, 8, 8, 8, 8, 8, 8, 8, 8, 8, 8, 8, 8, 8, 8, 8, 8, 8, 8, 8, 8, 8, 8, 8, 8, 8, 8, 8, 8, 8, 8, 8, 8, 8, 8, 8, 8, 8, 8, 8, 8, 8, 8, 8, 8, 8, 8, 8, 8, 8, 8, 8, 8, 8, 8, 8, 8, 8, 8, 8, 8, 8, 8, 8, 8, 8, 8, 8, 8, 8, 8, 8, 8, 8, 8, 8, 8, 8, 8, 8, 8, 8, 8, 8, 8, 8, 8, 8, 8, 8, 8, 8, 8, 8, 8, 8, 8, 8, 8, 8, 8, 8, 8, 8, 8, 8, 8, 8, 8, 8, 8, 8, 8, 8]
omit hS in
theorem lenTab_ok : ∀ i : Fin 256, lenTab.getD i.val 0 ≤ 8 ∧ (1 ≤ i.val → 2 ^ (lenTab.getD i.val 0) ≤ 2 * i.val) := by decide +kernel
omit hS in
theorem shr8 {x : Nat} (h : x < 65536) : iShr .u64 (x : Int) 8 = ((x / 256 : Nat) : Int) := by
  unfold iShr
  have e : (2 : Int) ^ min (Int.toNat 8) IntKind.u64.bits = 256 := by decide
  rw [e, Int.fdiv_eq_ediv_of_nonneg _ (by decide)]
  rfl
omit hS in
theorem and_le (y : Int) {m : Nat} (h : m < 2 ^ 32) : ∃ q : Nat, iAnd .u64 y (m : Int) = (q : Int) ∧ q ≤ m := by
  refine ⟨(BitVec.ofInt 64 y &&& BitVec.ofInt 64 (m : Int)).toNat, ?_, ?_⟩
  · unfold iAnd
    have : (BitVec.ofInt 64 y &&& BitVec.ofInt 64 (m : Int)).toNat < 2 ^ 64 := BitVec.isLt _
    show IntKind.wrap .u64 (((BitVec.ofInt 64 y &&& BitVec.ofInt 64 (m : Int)).toNat : Nat) : Int) = _
    generalize (BitVec.ofInt 64 y &&& BitVec.ofInt 64 (m : Int)).toNat = n at *
    unfold IntKind.wrap
    simp [IntKind.signed, IntKind.bits]
    omega
  · rw [BitVec.toNat_and]
    refine Nat.le_trans Nat.and_le_right ?_
    rw [BitVec.toNat_ofInt]
    have : ((m : Int) % ((2 ^ 64 : Nat) : Int)).toNat = m := by omega
    rw [this]
    exact Nat.le_refl _
omit hS in
theorem shl1 {t : Nat} (h : t ≤ 16) : iShl .u64 1 (t : Int) = ((2 ^ t : Nat) : Int) := by
  have : ∀ t : Fin 17, iShl .u64 1 (t.val : Int) = ((2 ^ t.val : Nat) : Int) := by decide
  exact this ⟨t, by omega⟩
theorem len64_spec (x : Nat) (h : H) (hx : x < 65536) : Pure S.cfg 64 [.int .u64 x] h fun v _ => ∃ t : Nat, v = .int .i64 t ∧ t ≤ 16 ∧ (1 ≤ x → 2 ^ t ≤ 2 * x) := by
  refine into Try.f64 _ Try.func64 (hS.ownS _ (by decide)) rfl rfl (by kernel_rfl) (by kernel_rfl) ?_
  have z1 : ¬ 4294967296 ≤ x := by omega
  have z2 : ¬ 65536 ≤ x := by omega
  have hll : lenTab.length = 256 := rfl
  by_cases h8 : 256 ≤ x
  · have z3 : IntKind.u8.wrap (iShr .u64 (x : Int) 8) = ((x / 256 : Nat) : Int) := by rw [shr8 hx, u8_in _ (by omega)]
    simp +contextual (disch := first | (simp only [facts, clsL, clsS, clsC, isPtrD]; done) | omega | (simp only [push_nx, put_nx, del_nx]; omega) | (refine Nat.le_antisymm ?_ ?_ <;> simp only [push_nx, put_nx, del_nx] <;> omega) | fail) only [wpy, facts, wpb, cst, wpk, wpl, forall_const, implies_true, false_implies, Int.reduceLE, Int.reduceLT, Nat.reduceLeDiff, UInt8.reduceToNat, ↓reduceIte, Nat.reduceEqDiff, Nat.reduceAdd, reduceCtorEq, Int.reduceToNat, clsL, clsS, clsC, Try.f64, z1, z2, h8]
    rw [z3]
    have ht := lenTab_ok ⟨x / 256, by omega⟩
    show (0 ≤ ((x / 256 : Nat) : Int) ∧ (((x / 256 : Nat) : Int)).toNat < lenTab.length) ∧ Ext h h ∧ ∃ t : Nat, IntKind.i64.wrap (IntKind.i64.wrap (0 + 8) + IntKind.i64.wrap ((lenTab.getD (((x / 256 : Nat) : Int)).toNat 0 : Nat) : Int)) = (t : Int) ∧ t ≤ 16 ∧ (1 ≤ x → 2 ^ t ≤ 2 * x)
    refine ⟨⟨by omega, by omega⟩, Ext.refl h, 8 + lenTab.getD (x / 256) 0, ?_, ?_, fun _ => ?_⟩
    · have t8 : lenTab.getD (x / 256) 0 ≤ 8 := ht.1
      have w : IntKind.i64.wrap ((lenTab.getD (x / 256) 0 : Nat) : Int) = ((lenTab.getD (x / 256) 0 : Nat) : Int) := i64_in _ (by omega)
      rw [i64_in (0 + 8) (by decide), show (((x / 256 : Nat) : Int)).toNat = x / 256 from rfl, w, i64_in _ (by omega)]
      omega
    · have := ht.1; simp only at this; omega
    · have h1 := ht.2 (show 1 ≤ x / 256 by omega)
      simp only at h1
      rw [Nat.pow_add]
      omega
  · have z3 : IntKind.u8.wrap (x : Int) = (x : Int) := u8_in _ (by omega)
    simp +contextual (disch := first | (simp only [facts, clsL, clsS, clsC, isPtrD]; done) | omega | (simp only [push_nx, put_nx, del_nx]; omega) | (refine Nat.le_antisymm ?_ ?_ <;> simp only [push_nx, put_nx, del_nx] <;> omega) | fail) only [wpy, facts, wpb, cst, wpk, wpl, forall_const, implies_true, false_implies, Int.reduceLE, Int.reduceLT, Nat.reduceLeDiff, UInt8.reduceToNat, ↓reduceIte, Nat.reduceEqDiff, Nat.reduceAdd, reduceCtorEq, Int.reduceToNat, clsL, clsS, clsC, Try.f64, z1, z2, h8]
    rw [z3]
    have ht := lenTab_ok ⟨x, by omega⟩
    show (0 ≤ (x : Int) ∧ ((x : Int)).toNat < lenTab.length) ∧ Ext h h ∧ ∃ t : Nat, IntKind.i64.wrap (0 + IntKind.i64.wrap ((lenTab.getD ((x : Int)).toNat 0 : Nat) : Int)) = (t : Int) ∧ t ≤ 16 ∧ (1 ≤ x → 2 ^ t ≤ 2 * x)
    refine ⟨⟨by omega, by omega⟩, Ext.refl h, lenTab.getD x 0, ?_, ?_, ht.2⟩
    · have t8 : lenTab.getD x 0 ≤ 8 := ht.1
      have w : IntKind.i64.wrap ((lenTab.getD x 0 : Nat) : Int) = ((lenTab.getD x 0 : Nat) : Int) := i64_in _ (by omega)
      rw [show ((x : Int)).toNat = x from rfl, w, i64_in _ (by omega)]
      omega
    · have := ht.1; simp only at this; omega
theorem len_spec (x : Nat) (h : H) (hx : x < 65536) : Pure S.cfg 53 [.int .u64 x] h fun v _ => ∃ t : Nat, v = .int .i64 t ∧ t ≤ 16 ∧ (1 ≤ x → 2 ^ t ≤ 2 * x) := by
  refine into Try.f53 _ Try.func53 (hS.ownS _ (by decide)) rfl rfl (by kernel_rfl) (by kernel_rfl) ?_
  simp +contextual (disch := first | (simp only [facts, clsL, clsS, clsC, isPtrD]; done) | omega | (simp only [push_nx, put_nx, del_nx]; omega) | (refine Nat.le_antisymm ?_ ?_ <;> simp only [push_nx, put_nx, del_nx] <;> omega) | fail) only [wpy, facts, wpb, cst, wpk, wpl, forall_const, implies_true, false_implies, Int.reduceLE, Int.reduceLT, Nat.reduceLeDiff, UInt8.reduceToNat, ↓reduceIte, Nat.reduceEqDiff, Nat.reduceAdd, reduceCtorEq, Int.reduceToNat, clsL, clsS, clsC, Try.f53]
  refine callF_pure (len64_spec hS x h hx) ?_
  rintro v h1 hx1 ⟨t, rfl, h2⟩
  simp +contextual (disch := first | (simp only [facts, clsL, clsS, clsC, isPtrD]; done) | omega | (simp only [push_nx, put_nx, del_nx]; omega) | (refine Nat.le_antisymm ?_ ?_ <;> simp only [push_nx, put_nx, del_nx] <;> omega) | fail) only [wpy, facts, wpb, cst, wpk, wpl, forall_const, implies_true, false_implies, Int.reduceLE, Int.reduceLT, Nat.reduceLeDiff, UInt8.reduceToNat, ↓reduceIte, Nat.reduceEqDiff, Nat.reduceAdd, reduceCtorEq, Int.reduceToNat, clsL, clsS, clsC, Try.f53]
  exact ⟨hx1, t, rfl, h2⟩
theorem npot_spec (x : Nat) (h : H) (hx : x < 65536) (h1 : 1 ≤ x) : Pure S.cfg 66 [.int .i64 x] h fun v _ => ∃ p : Nat, v = .int .u64 p ∧ 1 ≤ p ∧ p ≤ 2 * x := by
  refine into Try.f66 _ Try.func66 (hS.ownS _ (by decide)) rfl rfl (by kernel_rfl) (by kernel_rfl) ?_
  have z1 : IntKind.u64.wrap (x : Int) = (x : Int) := by
    unfold IntKind.wrap
    simp [IntKind.signed, IntKind.bits]
    omega
  simp +contextual (disch := first | (simp only [facts, clsL, clsS, clsC, isPtrD]; done) | omega | (simp only [push_nx, put_nx, del_nx]; omega) | (refine Nat.le_antisymm ?_ ?_ <;> simp only [push_nx, put_nx, del_nx] <;> omega) | fail) only [wpy, facts, wpb, cst, wpk, wpl, forall_const, implies_true, false_implies, Int.reduceLE, Int.reduceLT, Nat.reduceLeDiff, UInt8.reduceToNat, ↓reduceIte, Nat.reduceEqDiff, Nat.reduceAdd, reduceCtorEq, Int.reduceToNat, clsL, clsS, clsC, Try.f66, z1]
  refine callF_pure (len_spec hS x h hx) ?_
  rintro v h2 hx1 ⟨t, rfl, h3, h4⟩
  have e1 : iShl .u64 1 (t : Int) = ((2 ^ t : Nat) : Int) := shl1 h3
  have e2 : ((t : Int) < 0) = False := eq_false (by omega)
  have hp : 1 ≤ 2 ^ t := Nat.one_le_two_pow
  simp +contextual (disch := first | (simp only [facts, clsL, clsS, clsC, isPtrD]; done) | omega | (simp only [push_nx, put_nx, del_nx]; omega) | (refine Nat.le_antisymm ?_ ?_ <;> simp only [push_nx, put_nx, del_nx] <;> omega) | fail) only [wpy, facts, wpb, cst, wpk, wpl, forall_const, implies_true, false_implies, Int.reduceLE, Int.reduceLT, Nat.reduceLeDiff, UInt8.reduceToNat, ↓reduceIte, Nat.reduceEqDiff, Nat.reduceAdd, reduceCtorEq, Int.reduceToNat, clsL, clsS, clsC, Try.f66, e2, e1, if_false]
  exact ⟨hx1, 2 ^ t, rfl, hp, h4 h1⟩
set_option maxHeartbeats 1000000 in
theorem brk_spec (b a e : Nat) (L : List Int) (h : H) (ha : a + 13 ≤ e) (he : e ≤ L.length) (hn : L.length < 2 ^ 15) (hb : b < h.nx) (hd : Dat h b L) : callW S.cfg (fun k => k = b) 56 [.slice b 0 L.length L.length, .int .i64 a, .int .i64 e] h fun v h' => v = .tuple [] ∧ But b h h' ∧ ∃ L', Dat h' b L' ∧ RP a e L L' := by
  refine into Try.f56 _ Try.func56 (hS.ownS _ (by decide)) rfl rfl (by kernel_rfl) (by kernel_rfl) ?_
  obtain ⟨l, rfl⟩ : ∃ l, e = a + l := ⟨e - a, by omega⟩
  have z1 : IntKind.i64.wrap (((a + l : Nat) : Int) - (a : Nat)) = ((l : Nat) : Int) := by rw [i64_in _ (by omega)]; omega
  have z3 : Int.tdiv ((l : Nat) : Int) 4 = ((l / 4 : Nat) : Int) := rfl
  have z4 : IntKind.i64.wrap ((l / 4 : Nat) : Int) = ((l / 4 : Nat) : Int) := i64_in _ (by omega)
  have z5 : ((4 : Int) = 0) = False := eq_false (by decide)
  have z7 : IntKind.i64.wrap (((l / 4 : Nat) : Int) * 2) = ((l / 4 * 2 : Nat) : Int) := by rw [i64_in _ (by omega)]; omega
  have z10 : a + l / 4 * 2 ≤ 9223372036854775807 := by omega
  have z11 : a + l / 4 * 2 ≤ 9223372036854775806 := by omega
  have z12 := i64_pred (j := a + l / 4 * 2) (by omega) (by omega)
  have z13 : IntKind.u64.wrap (l : Int) = (l : Int) := by
    unfold IntKind.wrap
    simp [IntKind.signed, IntKind.bits]
    omega
  have c8 : 8 ≤ l := by omega
  simp +contextual (disch := first | (simp only [facts, clsL, clsS, clsC, isPtrD]; done) | omega | (simp only [push_nx, put_nx, del_nx]; omega) | (refine Nat.le_antisymm ?_ ?_ <;> simp only [push_nx, put_nx, del_nx] <;> omega) | fail) only [wpy, facts, wpb, cst, wpk, wpl, forall_const, implies_true, false_implies, Int.reduceLE, Int.reduceLT, Nat.reduceLeDiff, UInt8.reduceToNat, ↓reduceIte, Nat.reduceEqDiff, Nat.reduceAdd, reduceCtorEq, Int.reduceToNat, clsL, clsS, clsC, Try.f56, z1, z13, c8]
  have hbr : b ≠ h.nx := by omega
  obtain ⟨h1, hh1⟩ : ∃ h1, h1 = (h.push (.cells [.int .u64 0] 93 false)).put h.nx (.cells [.int .u64 l] 93 false) := ⟨_, rfl⟩
  rw [← hh1]
  have hx1 : Ext h h1 := by rw [hh1]; exact Ext.new _ _ _
  have hn1 : h1.nx = h.nx + 1 := by rw [hh1]; rfl
  have hg1 : h1.get h.nx = some (.cells [.int .u64 l] 93 false) := by rw [hh1]; exact put_eq rfl
  clear hh1
  refine callF_pure (npot_spec hS l _ (by omega) (by omega)) ?_
  rintro v h2 hx2 ⟨p, rfl, p1, p2⟩
  have hg2 : h2.get h.nx = some (.cells [.int .u64 l] 93 false) := by rw [hx2.2 _ (by omega)]; exact hg1
  have hd2 : Dat h2 b L := by unfold Dat; rw [hx2.2 b (by omega), hx1.2 b hb]; exact hd
  simp +contextual (disch := first | (simp only [facts, clsL, clsS, clsC, isPtrD]; done) | omega | (simp only [push_nx, put_nx, del_nx]; omega) | (refine Nat.le_antisymm ?_ ?_ <;> simp only [push_nx, put_nx, del_nx] <;> omega) | fail) only [wpy, facts, wpb, cst, wpk, wpl, forall_const, implies_true, false_implies, Int.reduceLE, Int.reduceLT, Nat.reduceLeDiff, UInt8.reduceToNat, ↓reduceIte, Nat.reduceEqDiff, Nat.reduceAdd, reduceCtorEq, Int.reduceToNat, clsL, clsS, clsC, Try.f56, z1, z13, c8, z3, z4, z5, z7, z10, z12]
  refine run_loop (fun k E H => ∃ (i : Nat) (M : List Int) (x : Int), k = a + l / 4 * 2 + 2 - i ∧ a + l / 4 * 2 ≤ i + 1 ∧ i ≤ a + l / 4 * 2 + 2 ∧ E 0 = .slice b 0 L.length L.length ∧ E 1 = .int .i64 a ∧ E 6 = .int .i64 l ∧ E 7 = .ptr h.nx 0 ∧ E 8 = .int .u64 p ∧ E 9 = .int .i64 i ∧ But b h H ∧ h.nx < H.nx ∧ Dat H b M ∧ RP a (a + l) L M ∧ H.get h.nx = some (.cells [.int .u64 x] 93 false)) 3 ⟨a + l / 4 * 2 - 1, L, l, ?_⟩ ?_
  · simp +contextual (disch := first | (simp only [facts, clsL, clsS, clsC, isPtrD]; done) | omega | (simp only [push_nx, put_nx, del_nx]; omega) | (refine Nat.le_antisymm ?_ ?_ <;> simp only [push_nx, put_nx, del_nx] <;> omega) | fail) only [wpy, facts, wpb, cst, wpk, wpl, forall_const, implies_true, false_implies, Int.reduceLE, Int.reduceLT, Nat.reduceLeDiff, UInt8.reduceToNat, ↓reduceIte, Nat.reduceEqDiff, Nat.reduceAdd, reduceCtorEq, Int.reduceToNat, clsL, clsS, clsC]
    exact ⟨by omega, by omega, by omega, But.of_ext (hx1.trans hx2), by have := hx2.1; omega, hd2, RP.refl _ _ _, hg2⟩
  rintro k E H1 ⟨i, M, x, rfl, i1, i2, e0, e1, e6, e7, e8, e9, hB, hnx, hD, hR, hg⟩
  have hl : M.length = L.length := hR.len
  by_cases hie : i ≤ a + l / 4 * 2 + 1
  · simp +contextual (disch := first | (simp only [facts, clsL, clsS, clsC, isPtrD]; done) | omega | (simp only [push_nx, put_nx, del_nx]; omega) | (refine Nat.le_antisymm ?_ ?_ <;> simp only [push_nx, put_nx, del_nx] <;> omega) | fail) only [wpy, facts, wpb, cst, wpk, wpl, forall_const, implies_true, false_implies, Int.reduceLE, Int.reduceLT, Nat.reduceLeDiff, UInt8.reduceToNat, ↓reduceIte, Nat.reduceEqDiff, Nat.reduceAdd, reduceCtorEq, Int.reduceToNat, clsL, clsS, clsC, Try.f56, e0, e1, e6, e7, e8, e9, z3, z4, z5, z7, z10, z11, hie]
    refine callF_of (next_spec hS h.nx x H1 hnx hg) (fun k q => by rw [fresh_def]; exact .inl (by omega)) ?_
    rintro v H2 ⟨y, rfl, hB2, hg2'⟩
    have hb1 : b < H1.nx := by have := hB.1; omega
    have hD2 : Dat H2 b M := by unfold Dat; rw [hB2.2 b hb1 hbr]; exact hD
    have hD2' : H2.get b = some (.cells (kv M) 27 true) := hD2
    have hnx2 : h.nx < H2.nx := Nat.lt_of_lt_of_le hnx hB2.1
    have hB3 : But b h H2 := ⟨Nat.le_trans hB.1 hB2.1, fun k q1 q2 => by rw [hB2.2 k (Nat.lt_of_lt_of_le q1 hB.1) (by omega), hB.2 k q1 q2]⟩
    have hg3 : ∀ (o1 o2 : Ob), ((H2.put b o1).put b o2).get h.nx = some (.cells [.int .u64 y] 93 false) := fun o1 o2 => by rw [put_ne (by omega), put_ne (by omega)]; exact hg2'
    obtain ⟨q, hq, hqm⟩ := and_le y (m := p - 1) (by omega)
    have z14 : IntKind.u64.wrap ((p : Int) - 1) = ((p - 1 : Nat) : Int) := by
      unfold IntKind.wrap
      simp [IntKind.signed, IntKind.bits]
      omega
    have z15 : IntKind.i64.wrap (q : Int) = (q : Int) := i64_in _ (by omega)
    have y3 : i ≤ 9223372036854775806 := by omega
    by_cases hql : l ≤ q
    · have z16 : IntKind.i64.wrap ((q : Int) - (l : Nat)) = ((q - l : Nat) : Int) := by rw [i64_in _ (by omega)]; omega
      have w1 : i < M.length := by omega
      have w2 : a + (q - l) < M.length := by omega
      have s1 := kv_at w1
      have s2 := kv_at w2
      have t1 : i < L.length := by omega
      have t2 : a + (q - l) < L.length := by omega
      have t3 : (listPut (kv M) i [.int .u32 (gi M (a + (q - l)))]).length = L.length := (kvp_len w1).trans (by omega)
      have t4 : a + (q - l) ≤ 9223372036854775807 := by omega
      simp +contextual (disch := first | (simp only [facts, clsL, clsS, clsC, isPtrD]; done) | omega | (simp only [push_nx, put_nx, del_nx]; omega) | (refine Nat.le_antisymm ?_ ?_ <;> simp only [push_nx, put_nx, del_nx] <;> omega) | exact dok (by kernel_rfl)) only [draw_calm, draw_calmA, wpy, facts, wpb, cst, wpk, wpl, forall_const, implies_true, false_implies, Int.reduceLE, Int.reduceLT, Nat.reduceLeDiff, UInt8.reduceToNat, ↓reduceIte, Nat.reduceEqDiff, Nat.reduceAdd, reduceCtorEq, Int.reduceToNat, clsL, clsS, clsC, Try.f56, e0, e1, e6, e7, e8, e9, z14, hq, z15, y3, hql, z16, s1, s2, t1, t2, t3, t4, hD2', kv_len, hl, hg3]
      exact ⟨by omega, by omega, a + l / 4 * 2 + 2 - (i + 1), by omega, i + 1, swp M i (a + (q - l)), y, rfl, by omega, by omega, rfl, (hB3.put _).put _, hnx2, swp_dat w1 w2, hR.trans (RP.swp (by omega) (by omega) (by omega) (by omega) (by omega)), rfl⟩
    · skip
      have w1 : i < M.length := by omega
      have w2 : a + q < M.length := by omega
      have s1 := kv_at w1
      have s2 := kv_at w2
      have t1 : i < L.length := by omega
      have t2 : a + q < L.length := by omega
      have t3 : (listPut (kv M) i [.int .u32 (gi M (a + q))]).length = L.length := (kvp_len w1).trans (by omega)
      have t4 : a + q ≤ 9223372036854775807 := by omega
      simp +contextual (disch := first | (simp only [facts, clsL, clsS, clsC, isPtrD]; done) | omega | (simp only [push_nx, put_nx, del_nx]; omega) | (refine Nat.le_antisymm ?_ ?_ <;> simp only [push_nx, put_nx, del_nx] <;> omega) | exact dok (by kernel_rfl)) only [draw_calm, draw_calmA, wpy, facts, wpb, cst, wpk, wpl, forall_const, implies_true, false_implies, Int.reduceLE, Int.reduceLT, Nat.reduceLeDiff, UInt8.reduceToNat, ↓reduceIte, Nat.reduceEqDiff, Nat.reduceAdd, reduceCtorEq, Int.reduceToNat, clsL, clsS, clsC, Try.f56, e0, e1, e6, e7, e8, e9, z14, hq, z15, y3, hql, s1, s2, t1, t2, t3, t4, hD2', kv_len, hl, hg3]
      exact ⟨by omega, by omega, a + l / 4 * 2 + 2 - (i + 1), by omega, i + 1, swp M i (a + q), y, rfl, by omega, by omega, rfl, (hB3.put _).put _, hnx2, swp_dat w1 w2, hR.trans (RP.swp (by omega) (by omega) (by omega) (by omega) (by omega)), rfl⟩
  · simp +contextual (disch := first | (simp only [facts, clsL, clsS, clsC, isPtrD]; done) | omega | (simp only [push_nx, put_nx, del_nx]; omega) | (refine Nat.le_antisymm ?_ ?_ <;> simp only [push_nx, put_nx, del_nx] <;> omega) | fail) only [wpy, facts, wpb, cst, wpk, wpl, forall_const, implies_true, false_implies, Int.reduceLE, Int.reduceLT, Nat.reduceLeDiff, UInt8.reduceToNat, ↓reduceIte, Nat.reduceEqDiff, Nat.reduceAdd, reduceCtorEq, Int.reduceToNat, clsL, clsS, clsC, Try.f56, e0, e1, e6, e7, e8, e9, z3, z4, z5, z7, z10, z11, hie]
    exact ⟨hB, M, hD, hR⟩
end
noncomputable section
theorem cond_no {c : Cfg} {Ok : Nat → Prop} {k : List Kt} {Q : Ex → Env → H → Prop} {env : Env} {h : H} {x : Operand} {a b : Code} {p : Prop} (hv : evalE env x = bo p) (hp : ¬ p) (hB : run c Ok k b env h Q) : run c Ok k (.cond x a b) env h Q := by
  rw [run_cond, hv, condW_bo]
  exact ⟨fun q => absurd q hp, fun _ => hB⟩
variable {S : Set0} (hS : StdS S)
include hS
set_option maxHeartbeats 1000000 in
theorem pdq_spec : ∀ (N b a e : Nat) (lim : Int) (L : List Int) (h : H), e - a ≤ N → a ≤ e → e ≤ L.length → L.length < 2 ^ 15 → b < h.nx → Dat h b L → (a = 0 ∨ ∀ k, a ≤ k → k < e → gi L (a - 1) ≤ gi L k) → callW S.cfg (fun k => k = b) 52 [.slice b 0 L.length L.length, .int .i64 a, .int .i64 e, .int .i64 lim] h fun v h' => v = .tuple [] ∧ But b h h' ∧ ∃ L', Dat h' b L' ∧ RP a e L L' ∧ SR a e L' := by
  intro N
  induction N using Nat.strongRecOn with
  | _ N IH =>
  intro b a e lim L h hN hae he hn hb hd hp
  refine into Try.f52 _ Try.func52 (hS.ownS _ (by decide)) rfl rfl (by kernel_rfl) (by kernel_rfl) ?_
  have bt : V.bool true = bo True := by simp [bo]
  simp +contextual (disch := first | (simp only [facts, clsL, clsS, clsC, isPtrD]; done) | omega | (simp only [push_nx, put_nx, del_nx]; omega) | (refine Nat.le_antisymm ?_ ?_ <;> simp only [push_nx, put_nx, del_nx] <;> omega) | fail) only [wpy, facts, wpb, cst, wpk, wpl, forall_const, implies_true, false_implies, Int.reduceLE, Int.reduceLT, Nat.reduceLeDiff, UInt8.reduceToNat, ↓reduceIte, Nat.reduceEqDiff, Nat.reduceAdd, reduceCtorEq, Int.reduceToNat, clsL, clsS, clsC, Try.f52]
  refine run_loop (fun k E H => ∃ (a1 e1 : Nat) (lim : Int) (q8 q9 : Prop) (M : List Int), k = e1 - a1 ∧ a1 ≤ e1 ∧ E 0 = .slice b 0 L.length L.length ∧ E 1 = .int .i64 a1 ∧ E 2 = .int .i64 e1 ∧ E 3 = .int .i64 lim ∧ E 8 = bo q8 ∧ E 9 = bo q9 ∧ But b h H ∧ Dat H b M ∧ Todo a e a1 e1 L M) (e - a) ⟨a, e, lim, True, True, L, ?_⟩ ?_
  · simp +contextual (disch := first | (simp only [facts, clsL, clsS, clsC, isPtrD]; done) | omega | (simp only [push_nx, put_nx, del_nx]; omega) | (refine Nat.le_antisymm ?_ ?_ <;> simp only [push_nx, put_nx, del_nx] <;> omega) | fail) only [wpy, facts, wpb, cst, wpk, wpl, forall_const, implies_true, false_implies, Int.reduceLE, Int.reduceLT, Nat.reduceLeDiff, UInt8.reduceToNat, ↓reduceIte, Nat.reduceEqDiff, Nat.reduceAdd, reduceCtorEq, Int.reduceToNat, clsL, clsS, clsC]
    exact ⟨hae, But.refl _ _, hd, Todo.start hp⟩
  rintro k E1 H1 ⟨a1, e1, lim, q8, q9, M, rfl, hae1, e0, g1, g2, g3, g8, g9, hB, hD, hT⟩
  have hl : M.length = L.length := hT.rp.len
  have hb1 : b < H1.nx := Nat.lt_of_lt_of_le hb hB.1
  have he1 := hT.hi
  have ha1 := hT.lo
  have z1 : IntKind.i64.wrap ((e1 : Int) - (a1 : Nat)) = ((e1 - a1 : Nat) : Int) := by rw [i64_in _ (by omega)]; omega
  by_cases h12 : e1 - a1 ≤ 12
  · simp +contextual (disch := first | (simp only [facts, clsL, clsS, clsC, isPtrD]; done) | omega | (simp only [push_nx, put_nx, del_nx]; omega) | (refine Nat.le_antisymm ?_ ?_ <;> simp only [push_nx, put_nx, del_nx] <;> omega) | fail) only [wpy, facts, wpb, cst, wpk, wpl, forall_const, implies_true, false_implies, Int.reduceLE, Int.reduceLT, Nat.reduceLeDiff, UInt8.reduceToNat, ↓reduceIte, Nat.reduceEqDiff, Nat.reduceAdd, reduceCtorEq, Int.reduceToNat, clsL, clsS, clsC, Try.f52, e0, g1, g2, g3, g8, g9, z1, h12]
    refine callF_of (hl ▸ ins_spec hS b a1 e1 M H1 hae1 (by omega) (by omega) hb1 hD) (fun k q => by rw [fresh_def]; exact .inr q) ?_
    rintro v H2 ⟨rfl, hB2, M2, hD2, hR2, hs2⟩
    simp +contextual (disch := first | (simp only [facts, clsL, clsS, clsC, isPtrD]; done) | omega | (simp only [push_nx, put_nx, del_nx]; omega) | (refine Nat.le_antisymm ?_ ?_ <;> simp only [push_nx, put_nx, del_nx] <;> omega) | fail) only [wpy, facts, wpb, cst, wpk, wpl, forall_const, implies_true, false_implies, Int.reduceLE, Int.reduceLT, Nat.reduceLeDiff, UInt8.reduceToNat, ↓reduceIte, Nat.reduceEqDiff, Nat.reduceAdd, reduceCtorEq, Int.reduceToNat, clsL, clsS, clsC, Try.f52]
    exact ⟨hB.trans hB2, M2, hD2, (hT.move hR2).rp, (hT.move hR2).sorted hs2⟩
  by_cases h0 : lim = 0
  · subst h0
    simp +contextual (disch := first | (simp only [facts, clsL, clsS, clsC, isPtrD]; done) | omega | (simp only [push_nx, put_nx, del_nx]; omega) | (refine Nat.le_antisymm ?_ ?_ <;> simp only [push_nx, put_nx, del_nx] <;> omega) | fail) only [wpy, facts, wpb, cst, wpk, wpl, forall_const, implies_true, false_implies, Int.reduceLE, Int.reduceLT, Nat.reduceLeDiff, UInt8.reduceToNat, ↓reduceIte, Nat.reduceEqDiff, Nat.reduceAdd, reduceCtorEq, Int.reduceToNat, clsL, clsS, clsC, Try.f52, e0, g1, g2, g3, g8, g9, z1, h12]
    refine callF_of (hl ▸ heap_spec hS b a1 e1 M H1 (by omega) (by omega) (by omega) hb1 hD) (fun k q => by rw [fresh_def]; exact .inr q) ?_
    rintro v H2 ⟨rfl, hB2, M2, hD2, hR2, hs2⟩
    simp +contextual (disch := first | (simp only [facts, clsL, clsS, clsC, isPtrD]; done) | omega | (simp only [push_nx, put_nx, del_nx]; omega) | (refine Nat.le_antisymm ?_ ?_ <;> simp only [push_nx, put_nx, del_nx] <;> omega) | fail) only [wpy, facts, wpb, cst, wpk, wpl, forall_const, implies_true, false_implies, Int.reduceLE, Int.reduceLT, Nat.reduceLeDiff, UInt8.reduceToNat, ↓reduceIte, Nat.reduceEqDiff, Nat.reduceAdd, reduceCtorEq, Int.reduceToNat, clsL, clsS, clsC, Try.f52]
    exact ⟨hB.trans hB2, M2, hD2, (hT.move hR2).rp, (hT.move hR2).sorted hs2⟩
  simp +contextual (disch := first | (simp only [facts, clsL, clsS, clsC, isPtrD]; done) | omega | (simp only [push_nx, put_nx, del_nx]; omega) | (refine Nat.le_antisymm ?_ ?_ <;> simp only [push_nx, put_nx, del_nx] <;> omega) | fail) only [wpyr, facts, wpb, cst, wpk, wpl, forall_const, implies_true, false_implies, Int.reduceLE, Int.reduceLT, Nat.reduceLeDiff, UInt8.reduceToNat, ↓reduceIte, Nat.reduceEqDiff, Nat.reduceAdd, reduceCtorEq, Int.reduceToNat, clsL, clsS, clsC, Try.f52, e0, g1, g2, g3, g8, g9, z1, h12, h0]
  refine cond_no (p := False) (by simp +contextual (disch := first | (simp only [facts, clsL, clsS, clsC, isPtrD]; done) | omega | (simp only [push_nx, put_nx, del_nx]; omega) | (refine Nat.le_antisymm ?_ ?_ <;> simp only [push_nx, put_nx, del_nx] <;> omega) | fail) only [wpy, facts, wpb, cst, wpk, wpl, forall_const, implies_true, false_implies, Int.reduceLE, Int.reduceLT, Nat.reduceLeDiff, UInt8.reduceToNat, ↓reduceIte, Nat.reduceEqDiff, Nat.reduceAdd, reduceCtorEq, Int.reduceToNat, clsL, clsS, clsC]) (fun q => q) ?_
  rw [run_skip, kont_seq]
  simp +contextual (disch := first | (simp only [facts, clsL, clsS, clsC, isPtrD]; done) | omega | (simp only [push_nx, put_nx, del_nx]; omega) | (refine Nat.le_antisymm ?_ ?_ <;> simp only [push_nx, put_nx, del_nx] <;> omega) | fail) only [wpyr, facts, wpb, cst, wpk, wpl, forall_const, implies_true, false_implies, Int.reduceLE, Int.reduceLT, Nat.reduceLeDiff, UInt8.reduceToNat, ↓reduceIte, Nat.reduceEqDiff, Nat.reduceAdd, reduceCtorEq, Int.reduceToNat, clsL, clsS, clsC, Try.f52, e0, g1, g2, g3, g8, g9, z1, h12, h0]
  refine cond_no (p := False) (by simp +contextual (disch := first | (simp only [facts, clsL, clsS, clsC, isPtrD]; done) | omega | (simp only [push_nx, put_nx, del_nx]; omega) | (refine Nat.le_antisymm ?_ ?_ <;> simp only [push_nx, put_nx, del_nx] <;> omega) | fail) only [wpy, facts, wpb, cst, wpk, wpl, forall_const, implies_true, false_implies, Int.reduceLE, Int.reduceLT, Nat.reduceLeDiff, UInt8.reduceToNat, ↓reduceIte, Nat.reduceEqDiff, Nat.reduceAdd, reduceCtorEq, Int.reduceToNat, clsL, clsS, clsC, h0]) (fun q => q) ?_
  rw [run_skip, kont_seq]
  simp +contextual (disch := first | (simp only [facts, clsL, clsS, clsC, isPtrD]; done) | omega | (simp only [push_nx, put_nx, del_nx]; omega) | (refine Nat.le_antisymm ?_ ?_ <;> simp only [push_nx, put_nx, del_nx] <;> omega) | fail) only [wpyr, facts, wpb, cst, wpk, wpl, forall_const, implies_true, false_implies, Int.reduceLE, Int.reduceLT, Nat.reduceLeDiff, UInt8.reduceToNat, ↓reduceIte, Nat.reduceEqDiff, Nat.reduceAdd, reduceCtorEq, Int.reduceToNat, clsL, clsS, clsC, Try.f52, e0, g1, g2, g3, g8, g9, z1, h12, h0]
  refine run_cut (fun E H => ∃ M : List Int, E 0 = .slice b 0 L.length L.length ∧ E 1 = .int .i64 a1 ∧ E 2 = .int .i64 e1 ∧ (∃ lim : Int, E 3 = .int .i64 lim) ∧ E 8 = bo q8 ∧ E 9 = bo q9 ∧ E 10 = .int .i64 (e1 - a1 : Nat) ∧ But b h H ∧ Dat H b M ∧ Todo a e a1 e1 L M) ?_ ?_
  · by_cases c8 : q8
    · have c8' : q8 = True := eq_true c8
      simp +contextual (disch := first | (simp only [facts, clsL, clsS, clsC, isPtrD]; done) | omega | (simp only [push_nx, put_nx, del_nx]; omega) | (refine Nat.le_antisymm ?_ ?_ <;> simp only [push_nx, put_nx, del_nx] <;> omega) | fail) only [wpy, facts, wpb, cst, wpk, wpl, forall_const, implies_true, false_implies, Int.reduceLE, Int.reduceLT, Nat.reduceLeDiff, UInt8.reduceToNat, ↓reduceIte, Nat.reduceEqDiff, Nat.reduceAdd, reduceCtorEq, Int.reduceToNat, clsL, clsS, clsC, Try.f52, e0, g1, g2, g3, g8, g9, c8']
      exact ⟨M, ⟨lim, rfl⟩, hB, hD, hT⟩
    · have c8' : q8 = False := eq_false c8
      simp +contextual (disch := first | (simp only [facts, clsL, clsS, clsC, isPtrD]; done) | omega | (simp only [push_nx, put_nx, del_nx]; omega) | (refine Nat.le_antisymm ?_ ?_ <;> simp only [push_nx, put_nx, del_nx] <;> omega) | fail) only [wpy, facts, wpb, cst, wpk, wpl, forall_const, implies_true, false_implies, Int.reduceLE, Int.reduceLT, Nat.reduceLeDiff, UInt8.reduceToNat, ↓reduceIte, Nat.reduceEqDiff, Nat.reduceAdd, reduceCtorEq, Int.reduceToNat, clsL, clsS, clsC, Try.f52, e0, g1, g2, g3, g8, g9, c8']
      refine callF_of (hl ▸ brk_spec hS b a1 e1 M H1 (by omega) (by omega) (by omega) hb1 hD) (fun k q => by rw [fresh_def]; exact .inr q) ?_
      rintro v H2 ⟨rfl, hB2, M2, hD2, hR2⟩
      simp +contextual (disch := first | (simp only [facts, clsL, clsS, clsC, isPtrD]; done) | omega | (simp only [push_nx, put_nx, del_nx]; omega) | (refine Nat.le_antisymm ?_ ?_ <;> simp only [push_nx, put_nx, del_nx] <;> omega) | fail) only [wpy, facts, wpb, cst, wpk, wpl, forall_const, implies_true, false_implies, Int.reduceLE, Int.reduceLT, Nat.reduceLeDiff, UInt8.reduceToNat, ↓reduceIte, Nat.reduceEqDiff, Nat.reduceAdd, reduceCtorEq, Int.reduceToNat, clsL, clsS, clsC, Try.f52, e0, g1, g2, g3, g8, g9, c8']
      exact ⟨M2, ⟨_, rfl⟩, hB.trans hB2, hD2, hT.move hR2⟩
  clear hT hD hl hB hb1 z1 g8 g9 g3 g2 g1 e0 h0 he1 ha1
  clear M lim
  rintro E2 H2 ⟨M, e0, g1, g2, ⟨lim, g3⟩, g8, g9, g10, hB, hD, hT⟩
  have hl : M.length = L.length := hT.rp.len
  have hb1 : b < H2.nx := Nat.lt_of_lt_of_le hb hB.1
  have he1 := hT.hi
  have ha1 := hT.lo
  simp +contextual (disch := first | (simp only [facts, clsL, clsS, clsC, isPtrD]; done) | omega | (simp only [push_nx, put_nx, del_nx]; omega) | (refine Nat.le_antisymm ?_ ?_ <;> simp only [push_nx, put_nx, del_nx] <;> omega) | fail) only [wpy, facts, wpb, cst, wpk, wpl, forall_const, implies_true, false_implies, Int.reduceLE, Int.reduceLT, Nat.reduceLeDiff, UInt8.reduceToNat, ↓reduceIte, Nat.reduceEqDiff, Nat.reduceAdd, reduceCtorEq, Int.reduceToNat, clsL, clsS, clsC, Try.f52, e0, g1, g2, g3, g8, g9, g10]
  refine callF_pure (hl ▸ piv_spec hS b a1 e1 M H2 (by omega) (by omega) (by omega) hb1 hD) ?_
  rintro v H3 hx3 ⟨m, t, rfl, m1, m2⟩
  have hB3 : But b h H3 := hB.trans (But.of_ext hx3)
  have hD3 : Dat H3 b M := by unfold Dat; rw [hx3.2 b hb1]; exact hD
  have hb3 : b < H3.nx := Nat.lt_of_lt_of_le hb1 hx3.1
  simp +contextual (disch := first | (simp only [facts, clsL, clsS, clsC, isPtrD]; done) | omega | (simp only [push_nx, put_nx, del_nx]; omega) | (refine Nat.le_antisymm ?_ ?_ <;> simp only [push_nx, put_nx, del_nx] <;> omega) | fail) only [wpyr, facts, wpb, cst, wpk, wpl, forall_const, implies_true, false_implies, Int.reduceLE, Int.reduceLT, Nat.reduceLeDiff, UInt8.reduceToNat, ↓reduceIte, Nat.reduceEqDiff, Nat.reduceAdd, reduceCtorEq, Int.reduceToNat, clsL, clsS, clsC, Try.f52, e0, g1, g2, g3, g8, g9, g10]
  refine run_cut (fun E H => ∃ (M : List Int) (m : Nat) (t : Int), E 11 = .int .i64 m ∧ E 12 = .int .i64 t ∧ a1 ≤ m ∧ m < e1 ∧ E 0 = .slice b 0 L.length L.length ∧ E 1 = .int .i64 a1 ∧ E 2 = .int .i64 e1 ∧ (∃ lim : Int, E 3 = .int .i64 lim) ∧ E 8 = bo q8 ∧ E 9 = bo q9 ∧ E 10 = .int .i64 (e1 - a1 : Nat) ∧ But b h H ∧ Dat H b M ∧ Todo a e a1 e1 L M) ?_ ?_
  · by_cases t2 : t = 2
    · subst t2
      simp +contextual (disch := first | (simp only [facts, clsL, clsS, clsC, isPtrD]; done) | omega | (simp only [push_nx, put_nx, del_nx]; omega) | (refine Nat.le_antisymm ?_ ?_ <;> simp only [push_nx, put_nx, del_nx] <;> omega) | fail) only [wpy, facts, wpb, cst, wpk, wpl, forall_const, implies_true, false_implies, Int.reduceLE, Int.reduceLT, Nat.reduceLeDiff, UInt8.reduceToNat, ↓reduceIte, Nat.reduceEqDiff, Nat.reduceAdd, reduceCtorEq, Int.reduceToNat, clsL, clsS, clsC, Try.f52, e0, g1, g2, g3, g8, g9, g10]
      refine callF_of (hl ▸ rev_spec hS b a1 e1 M H3 (by omega) (by omega) (by omega) hb3 hD3) (fun k q => by rw [fresh_def]; exact .inr q) ?_
      rintro v H4 ⟨rfl, hB4, M4, hD4, hR4⟩
      have z1 := i64_pred (j := e1) (by omega) (by omega)
      have z2 : IntKind.i64.wrap ((m : Int) - (a1 : Nat)) = ((m - a1 : Nat) : Int) := by rw [i64_in _ (by omega)]; omega
      have z3 : IntKind.i64.wrap (((e1 - 1 : Nat) : Int) - ((m - a1 : Nat) : Int)) = ((e1 - 1 - (m - a1) : Nat) : Int) := by rw [i64_in _ (by omega)]; omega
      simp +contextual (disch := first | (simp only [facts, clsL, clsS, clsC, isPtrD]; done) | omega | (simp only [push_nx, put_nx, del_nx]; omega) | (refine Nat.le_antisymm ?_ ?_ <;> simp only [push_nx, put_nx, del_nx] <;> omega) | fail) only [wpy, facts, wpb, cst, wpk, wpl, forall_const, implies_true, false_implies, Int.reduceLE, Int.reduceLT, Nat.reduceLeDiff, UInt8.reduceToNat, ↓reduceIte, Nat.reduceEqDiff, Nat.reduceAdd, reduceCtorEq, Int.reduceToNat, clsL, clsS, clsC, Try.f52, e0, g1, g2, g3, g8, g9, g10, z1, z2, z3]
      exact ⟨M4, _, 1, rfl, rfl, by omega, by omega, ⟨lim, rfl⟩, hB3.trans hB4, hD4, hT.move hR4⟩
    · simp +contextual (disch := first | (simp only [facts, clsL, clsS, clsC, isPtrD]; done) | omega | (simp only [push_nx, put_nx, del_nx]; omega) | (refine Nat.le_antisymm ?_ ?_ <;> simp only [push_nx, put_nx, del_nx] <;> omega) | fail) only [wpy, facts, wpb, cst, wpk, wpl, forall_const, implies_true, false_implies, Int.reduceLE, Int.reduceLT, Nat.reduceLeDiff, UInt8.reduceToNat, ↓reduceIte, Nat.reduceEqDiff, Nat.reduceAdd, reduceCtorEq, Int.reduceToNat, clsL, clsS, clsC, Try.f52, e0, g1, g2, g3, g8, g9, g10, t2]
      exact ⟨M, m, t, rfl, rfl, m1, m2, ⟨lim, rfl⟩, hB3, hD3, hT⟩
  clear hT hD hD3 hl hB hB3 hb1 hb3 hx3 g8 g9 g10 g3 g2 g1 e0 he1 ha1 m1 m2
  clear M lim m t
  rintro E4 H4 ⟨M, m, t, g11, g12, m1, m2, e0, g1, g2, ⟨lim, g3⟩, g8, g9, g10, hB, hD, hT⟩
  have hl : M.length = L.length := hT.rp.len
  have hb1 : b < H4.nx := Nat.lt_of_lt_of_le hb hB.1
  have he1 := hT.hi
  have ha1 := hT.lo
  simp +contextual (disch := first | (simp only [facts, clsL, clsS, clsC, isPtrD]; done) | omega | (simp only [push_nx, put_nx, del_nx]; omega) | (refine Nat.le_antisymm ?_ ?_ <;> simp only [push_nx, put_nx, del_nx] <;> omega) | fail) only [wpyr, facts, wpb, cst, wpk, wpl, forall_const, implies_true, false_implies, Int.reduceLE, Int.reduceLT, Nat.reduceLeDiff, UInt8.reduceToNat, ↓reduceIte, Nat.reduceEqDiff, Nat.reduceAdd, reduceCtorEq, Int.reduceToNat, clsL, clsS, clsC, Try.f52, e0, g1, g2, g3, g8, g9, g10, g11, g12]
  refine run_cut (fun E H => ∃ (M : List Int) (m : Nat), E 11 = .int .i64 m ∧ a1 ≤ m ∧ m < e1 ∧ E 0 = .slice b 0 L.length L.length ∧ E 1 = .int .i64 a1 ∧ E 2 = .int .i64 e1 ∧ (∃ lim : Int, E 3 = .int .i64 lim) ∧ E 8 = bo q8 ∧ E 9 = bo q9 ∧ E 10 = .int .i64 (e1 - a1 : Nat) ∧ But b h H ∧ Dat H b M ∧ Todo a e a1 e1 L M) ?_ ?_
  · by_cases c8 : q8
    · have c8' : q8 = True := eq_true c8
      by_cases c9 : q9
      · have c9' : q9 = True := eq_true c9
        by_cases t1 : t = 1
        · have t1' : (t = 1) = True := eq_true t1
          simp +contextual (disch := first | (simp only [facts, clsL, clsS, clsC, isPtrD]; done) | omega | (simp only [push_nx, put_nx, del_nx]; omega) | (refine Nat.le_antisymm ?_ ?_ <;> simp only [push_nx, put_nx, del_nx] <;> omega) | fail) only [wpy, facts, wpb, cst, wpk, wpl, forall_const, implies_true, false_implies, Int.reduceLE, Int.reduceLT, Nat.reduceLeDiff, UInt8.reduceToNat, ↓reduceIte, Nat.reduceEqDiff, Nat.reduceAdd, reduceCtorEq, Int.reduceToNat, clsL, clsS, clsC, Try.f52, e0, g1, g2, g3, g8, g9, g10, g11, g12, c8', c9', t1']
          refine callF_of (hl ▸ partial_spec hS b a1 e1 M H4 (by omega) (by omega) (by omega) hb1 hD hT.pred) (fun k q => by rw [fresh_def]; exact .inr q) ?_
          rintro v H5 ⟨q, rfl, hB5, M5, hD5, hR5, hs5⟩
          by_cases hq : q
          · have hq' : q = True := eq_true hq
            simp +contextual (disch := first | (simp only [facts, clsL, clsS, clsC, isPtrD]; done) | omega | (simp only [push_nx, put_nx, del_nx]; omega) | (refine Nat.le_antisymm ?_ ?_ <;> simp only [push_nx, put_nx, del_nx] <;> omega) | fail) only [wpy, facts, wpb, cst, wpk, wpl, forall_const, implies_true, false_implies, Int.reduceLE, Int.reduceLT, Nat.reduceLeDiff, UInt8.reduceToNat, ↓reduceIte, Nat.reduceEqDiff, Nat.reduceAdd, reduceCtorEq, Int.reduceToNat, clsL, clsS, clsC, Try.f52, e0, g1, g2, g3, g8, g9, g10, g11, g12, hq']
            exact ⟨hB.trans hB5, M5, hD5, (hT.move hR5).rp, (hT.move hR5).sorted (hs5 hq)⟩
          · have hq' : q = False := eq_false hq
            simp +contextual (disch := first | (simp only [facts, clsL, clsS, clsC, isPtrD]; done) | omega | (simp only [push_nx, put_nx, del_nx]; omega) | (refine Nat.le_antisymm ?_ ?_ <;> simp only [push_nx, put_nx, del_nx] <;> omega) | fail) only [wpy, facts, wpb, cst, wpk, wpl, forall_const, implies_true, false_implies, Int.reduceLE, Int.reduceLT, Nat.reduceLeDiff, UInt8.reduceToNat, ↓reduceIte, Nat.reduceEqDiff, Nat.reduceAdd, reduceCtorEq, Int.reduceToNat, clsL, clsS, clsC, Try.f52, e0, g1, g2, g3, g8, g9, g10, g11, g12, hq', c8', c9']
            exact ⟨M5, m, rfl, m1, m2, ⟨lim, rfl⟩, hB.trans hB5, hD5, hT.move hR5⟩
        · have t1' : (t = 1) = False := eq_false t1
          simp +contextual (disch := first | (simp only [facts, clsL, clsS, clsC, isPtrD]; done) | omega | (simp only [push_nx, put_nx, del_nx]; omega) | (refine Nat.le_antisymm ?_ ?_ <;> simp only [push_nx, put_nx, del_nx] <;> omega) | fail) only [wpy, facts, wpb, cst, wpk, wpl, forall_const, implies_true, false_implies, Int.reduceLE, Int.reduceLT, Nat.reduceLeDiff, UInt8.reduceToNat, ↓reduceIte, Nat.reduceEqDiff, Nat.reduceAdd, reduceCtorEq, Int.reduceToNat, clsL, clsS, clsC, Try.f52, e0, g1, g2, g3, g8, g9, g10, g11, g12, c8', c9', t1']
          exact ⟨M, m, rfl, m1, m2, ⟨lim, rfl⟩, hB, hD, hT⟩
      · have c9' : q9 = False := eq_false c9
        simp +contextual (disch := first | (simp only [facts, clsL, clsS, clsC, isPtrD]; done) | omega | (simp only [push_nx, put_nx, del_nx]; omega) | (refine Nat.le_antisymm ?_ ?_ <;> simp only [push_nx, put_nx, del_nx] <;> omega) | fail) only [wpy, facts, wpb, cst, wpk, wpl, forall_const, implies_true, false_implies, Int.reduceLE, Int.reduceLT, Nat.reduceLeDiff, UInt8.reduceToNat, ↓reduceIte, Nat.reduceEqDiff, Nat.reduceAdd, reduceCtorEq, Int.reduceToNat, clsL, clsS, clsC, Try.f52, e0, g1, g2, g3, g8, g9, g10, g11, g12, c8', c9']
        exact ⟨M, m, rfl, m1, m2, ⟨lim, rfl⟩, hB, hD, hT⟩
    · have c8' : q8 = False := eq_false c8
      simp +contextual (disch := first | (simp only [facts, clsL, clsS, clsC, isPtrD]; done) | omega | (simp only [push_nx, put_nx, del_nx]; omega) | (refine Nat.le_antisymm ?_ ?_ <;> simp only [push_nx, put_nx, del_nx] <;> omega) | fail) only [wpy, facts, wpb, cst, wpk, wpl, forall_const, implies_true, false_implies, Int.reduceLE, Int.reduceLT, Nat.reduceLeDiff, UInt8.reduceToNat, ↓reduceIte, Nat.reduceEqDiff, Nat.reduceAdd, reduceCtorEq, Int.reduceToNat, clsL, clsS, clsC, Try.f52, e0, g1, g2, g3, g8, g9, g10, g11, g12, c8']
      exact ⟨M, m, rfl, m1, m2, ⟨lim, rfl⟩, hB, hD, hT⟩
  clear hT hD hl hB hb1 g8 g9 g10 g11 g12 g3 g2 g1 e0 he1 ha1 m1 m2
  clear M lim m t
  rintro E5 H5 ⟨M, m, g11, m1, m2, e0, g1, g2, ⟨lim, g3⟩, g8, g9, g10, hB, hD, hT⟩
  have hl : M.length = L.length := hT.rp.len
  have hb1 : b < H5.nx := Nat.lt_of_lt_of_le hb hB.1
  have he1 := hT.hi
  have ha1 := hT.lo
  have y1 : ∀ n : Nat, 0 < n → n < 2 ^ 62 → IntKind.i64.wrap ((n : Int) - 1) = ((n - 1 : Nat) : Int) := fun n q1 q2 => i64_pred q1 q2
  have hD' : H5.get b = some (.cells (kv M) 27 true) := hD
  have u1 : m < M.length := by omega
  have k1 := kv_at u1
  have v1 : m < L.length := by omega
  by_cases ha0 : 0 < a1
  · have u2 : a1 - 1 < M.length := by omega
    have k2 := kv_at u2
    have v2 : a1 - 1 < L.length := by omega
    have y2 := i64_pred (j := a1) ha0 (by omega)
    simp +contextual (disch := first | (simp only [facts, clsL, clsS, clsC, isPtrD]; done) | omega | (simp only [push_nx, put_nx, del_nx]; omega) | (refine Nat.le_antisymm ?_ ?_ <;> simp only [push_nx, put_nx, del_nx] <;> omega) | exact dok (by kernel_rfl)) only [draw_calm, draw_calmA, wpy, facts, wpb, cst, wpk, wpl, forall_const, implies_true, false_implies, Int.reduceLE, Int.reduceLT, Nat.reduceLeDiff, UInt8.reduceToNat, ↓reduceIte, Nat.reduceEqDiff, Nat.reduceAdd, reduceCtorEq, Int.reduceToNat, clsL, clsS, clsC, Try.f52, e0, g1, g2, g3, g8, g9, g10, g11, ha0, y2, k1, k2, v1, v2, hD']
    refine callF_exact (less_spec hS _ _ _) ?_
    by_cases hls : gi M (a1 - 1) < gi M m
    · simp +contextual (disch := first | (simp only [facts, clsL, clsS, clsC, isPtrD]; done) | omega | (simp only [push_nx, put_nx, del_nx]; omega) | (refine Nat.le_antisymm ?_ ?_ <;> simp only [push_nx, put_nx, del_nx] <;> omega) | exact dok (by kernel_rfl)) only [draw_calm, draw_calmA, wpy, facts, wpb, cst, wpk, wpl, forall_const, implies_true, false_implies, Int.reduceLE, Int.reduceLT, Nat.reduceLeDiff, UInt8.reduceToNat, ↓reduceIte, Nat.reduceEqDiff, Nat.reduceAdd, reduceCtorEq, Int.reduceToNat, clsL, clsS, clsC, Try.f52, e0, g1, g2, g3, g8, g9, g10, g11, ha0, y2, k1, k2, v1, v2, hD', hls]
      refine callF_of (hl ▸ part_spec hS b a1 e1 m M H5 m1 m2 (by omega) (by omega) hb1 hD) (fun k q => by rw [fresh_def]; exact .inr q) ?_
      rintro v H6 ⟨p, qp, rfl, hB6, p1, p2, M6, hD6, hR6, hs6⟩
      have hT6 := hT.move hR6
      have hl6 : M6.length = L.length := hT6.rp.len
      have hb6 : b < H6.nx := Nat.lt_of_lt_of_le hb1 hB6.1
      have z1 : IntKind.i64.wrap ((p : Int) - (a1 : Nat)) = ((p - a1 : Nat) : Int) := by rw [i64_in _ (by omega)]; omega
      have z2 : IntKind.i64.wrap ((e1 : Int) - (p : Nat)) = ((e1 - p : Nat) : Int) := by rw [i64_in _ (by omega)]; omega
      have z3 : Int.tdiv ((e1 - a1 : Nat) : Int) 8 = (((e1 - a1) / 8 : Nat) : Int) := rfl
      have z4 : IntKind.i64.wrap (((e1 - a1) / 8 : Nat) : Int) = (((e1 - a1) / 8 : Nat) : Int) := i64_in _ (by omega)
      have z5 : ((8 : Int) = 0) = False := eq_false (by decide)
      have z6 : p ≤ 9223372036854775806 := by omega
      by_cases hlr : p - a1 < e1 - p
      · simp +contextual (disch := first | (simp only [facts, clsL, clsS, clsC, isPtrD]; done) | omega | (simp only [push_nx, put_nx, del_nx]; omega) | (refine Nat.le_antisymm ?_ ?_ <;> simp only [push_nx, put_nx, del_nx] <;> omega) | fail) only [wpy, facts, wpb, cst, wpk, wpl, forall_const, implies_true, false_implies, Int.reduceLE, Int.reduceLT, Nat.reduceLeDiff, UInt8.reduceToNat, ↓reduceIte, Nat.reduceEqDiff, Nat.reduceAdd, reduceCtorEq, Int.reduceToNat, clsL, clsS, clsC, Try.f52, e0, g1, g2, g3, g8, g9, g10, g11, z1, z2, z3, z4, z5, z6, hlr]
        refine callF_of (hl6 ▸ IH (p - a1) (by omega) b a1 p lim M6 H6 (Nat.le_refl _) p1 (by omega) (by omega) hb6 hD6 (left_pred hT6.pred (by omega))) (fun k q => by rw [fresh_def]; exact .inr q) ?_
        rintro v H7 ⟨rfl, hB7, M7, hD7, hR7, hs7⟩
        simp +contextual (disch := first | (simp only [facts, clsL, clsS, clsC, isPtrD]; done) | omega | (simp only [push_nx, put_nx, del_nx]; omega) | (refine Nat.le_antisymm ?_ ?_ <;> simp only [push_nx, put_nx, del_nx] <;> omega) | fail) only [wpy, facts, wpb, cst, wpk, wpl, forall_const, implies_true, false_implies, Int.reduceLE, Int.reduceLT, Nat.reduceLeDiff, UInt8.reduceToNat, ↓reduceIte, Nat.reduceEqDiff, Nat.reduceAdd, reduceCtorEq, Int.reduceToNat, clsL, clsS, clsC, Try.f52, e0, g1, g2, g3, g8, g9, g10, g11, z1, z2, z3, z4, z5, z6, hlr]
        exact ⟨e1 - (p + 1), by omega, p + 1, e1, lim, _, qp, M7, rfl, by omega, rfl, rfl, rfl, rfl, rfl, hB.trans (hB6.trans hB7), hD7, hT6.left p1 p2 hs6 hR7 hs7⟩
      · simp +contextual (disch := first | (simp only [facts, clsL, clsS, clsC, isPtrD]; done) | omega | (simp only [push_nx, put_nx, del_nx]; omega) | (refine Nat.le_antisymm ?_ ?_ <;> simp only [push_nx, put_nx, del_nx] <;> omega) | fail) only [wpy, facts, wpb, cst, wpk, wpl, forall_const, implies_true, false_implies, Int.reduceLE, Int.reduceLT, Nat.reduceLeDiff, UInt8.reduceToNat, ↓reduceIte, Nat.reduceEqDiff, Nat.reduceAdd, reduceCtorEq, Int.reduceToNat, clsL, clsS, clsC, Try.f52, e0, g1, g2, g3, g8, g9, g10, g11, z1, z2, z3, z4, z5, z6, hlr]
        refine callF_of (hl6 ▸ IH (e1 - (p + 1)) (by omega) b (p + 1) e1 lim M6 H6 (Nat.le_refl _) (by omega) (by omega) (by omega) hb6 hD6 (split_pred hs6)) (fun k q => by rw [fresh_def]; exact .inr q) ?_
        rintro v H7 ⟨rfl, hB7, M7, hD7, hR7, hs7⟩
        simp +contextual (disch := first | (simp only [facts, clsL, clsS, clsC, isPtrD]; done) | omega | (simp only [push_nx, put_nx, del_nx]; omega) | (refine Nat.le_antisymm ?_ ?_ <;> simp only [push_nx, put_nx, del_nx] <;> omega) | fail) only [wpy, facts, wpb, cst, wpk, wpl, forall_const, implies_true, false_implies, Int.reduceLE, Int.reduceLT, Nat.reduceLeDiff, UInt8.reduceToNat, ↓reduceIte, Nat.reduceEqDiff, Nat.reduceAdd, reduceCtorEq, Int.reduceToNat, clsL, clsS, clsC, Try.f52, e0, g1, g2, g3, g8, g9, g10, g11, z1, z2, z3, z4, z5, z6, hlr]
        exact ⟨p - a1, by omega, a1, p, lim, _, qp, M7, rfl, by omega, rfl, rfl, rfl, rfl, rfl, hB.trans (hB6.trans hB7), hD7, hT6.right p1 p2 hs6 hR7 hs7⟩
    · simp +contextual (disch := first | (simp only [facts, clsL, clsS, clsC, isPtrD]; done) | omega | (simp only [push_nx, put_nx, del_nx]; omega) | (refine Nat.le_antisymm ?_ ?_ <;> simp only [push_nx, put_nx, del_nx] <;> omega) | exact dok (by kernel_rfl)) only [draw_calm, draw_calmA, wpy, facts, wpb, cst, wpk, wpl, forall_const, implies_true, false_implies, Int.reduceLE, Int.reduceLT, Nat.reduceLeDiff, UInt8.reduceToNat, ↓reduceIte, Nat.reduceEqDiff, Nat.reduceAdd, reduceCtorEq, Int.reduceToNat, clsL, clsS, clsC, Try.f52, e0, g1, g2, g3, g8, g9, g10, g11, ha0, y2, k1, k2, v1, v2, hD', hls]
      refine callF_of (hl ▸ parteq_spec hS b a1 e1 m M H5 m1 m2 (by omega) (by omega) hb1 hD) (fun k q => by rw [fresh_def]; exact .inr q) ?_
      rintro v H6 ⟨p, rfl, hB6, p1, p2, M6, hD6, hR6, hs6, hs7⟩
      simp +contextual (disch := first | (simp only [facts, clsL, clsS, clsC, isPtrD]; done) | omega | (simp only [push_nx, put_nx, del_nx]; omega) | (refine Nat.le_antisymm ?_ ?_ <;> simp only [push_nx, put_nx, del_nx] <;> omega) | fail) only [wpy, facts, wpb, cst, wpk, wpl, forall_const, implies_true, false_implies, Int.reduceLE, Int.reduceLT, Nat.reduceLeDiff, UInt8.reduceToNat, ↓reduceIte, Nat.reduceEqDiff, Nat.reduceAdd, reduceCtorEq, Int.reduceToNat, clsL, clsS, clsC, Try.f52, e0, g1, g2, g3, g8, g9, g10, g11]
      exact ⟨e1 - p, by omega, p, e1, lim, q8, q9, M6, rfl, by omega, rfl, rfl, rfl, rfl, rfl, hB.trans hB6, hD6, hT.equal hR6 p1 p2 (by omega) (by omega) hs6 hs7⟩
  · simp +contextual (disch := first | (simp only [facts, clsL, clsS, clsC, isPtrD]; done) | omega | (simp only [push_nx, put_nx, del_nx]; omega) | (refine Nat.le_antisymm ?_ ?_ <;> simp only [push_nx, put_nx, del_nx] <;> omega) | exact dok (by kernel_rfl)) only [draw_calm, draw_calmA, wpy, facts, wpb, cst, wpk, wpl, forall_const, implies_true, false_implies, Int.reduceLE, Int.reduceLT, Nat.reduceLeDiff, UInt8.reduceToNat, ↓reduceIte, Nat.reduceEqDiff, Nat.reduceAdd, reduceCtorEq, Int.reduceToNat, clsL, clsS, clsC, Try.f52, e0, g1, g2, g3, g8, g9, g10, g11, ha0, hD']
    refine callF_of (hl ▸ part_spec hS b a1 e1 m M H5 m1 m2 (by omega) (by omega) hb1 hD) (fun k q => by rw [fresh_def]; exact .inr q) ?_
    rintro v H6 ⟨p, qp, rfl, hB6, p1, p2, M6, hD6, hR6, hs6⟩
    have hT6 := hT.move hR6
    have hl6 : M6.length = L.length := hT6.rp.len
    have hb6 : b < H6.nx := Nat.lt_of_lt_of_le hb1 hB6.1
    have z1 : IntKind.i64.wrap ((p : Int) - (a1 : Nat)) = ((p - a1 : Nat) : Int) := by rw [i64_in _ (by omega)]; omega
    have z2 : IntKind.i64.wrap ((e1 : Int) - (p : Nat)) = ((e1 - p : Nat) : Int) := by rw [i64_in _ (by omega)]; omega
    have z3 : Int.tdiv ((e1 - a1 : Nat) : Int) 8 = (((e1 - a1) / 8 : Nat) : Int) := rfl
    have z4 : IntKind.i64.wrap (((e1 - a1) / 8 : Nat) : Int) = (((e1 - a1) / 8 : Nat) : Int) := i64_in _ (by omega)
    have z5 : ((8 : Int) = 0) = False := eq_false (by decide)
    have z6 : p ≤ 9223372036854775806 := by omega
    by_cases hlr : p - a1 < e1 - p
    · simp +contextual (disch := first | (simp only [facts, clsL, clsS, clsC, isPtrD]; done) | omega | (simp only [push_nx, put_nx, del_nx]; omega) | (refine Nat.le_antisymm ?_ ?_ <;> simp only [push_nx, put_nx, del_nx] <;> omega) | fail) only [wpy, facts, wpb, cst, wpk, wpl, forall_const, implies_true, false_implies, Int.reduceLE, Int.reduceLT, Nat.reduceLeDiff, UInt8.reduceToNat, ↓reduceIte, Nat.reduceEqDiff, Nat.reduceAdd, reduceCtorEq, Int.reduceToNat, clsL, clsS, clsC, Try.f52, e0, g1, g2, g3, g8, g9, g10, g11, z1, z2, z3, z4, z5, z6, hlr]
      refine callF_of (hl6 ▸ IH (p - a1) (by omega) b a1 p lim M6 H6 (Nat.le_refl _) p1 (by omega) (by omega) hb6 hD6 (left_pred hT6.pred (by omega))) (fun k q => by rw [fresh_def]; exact .inr q) ?_
      rintro v H7 ⟨rfl, hB7, M7, hD7, hR7, hs7⟩
      simp +contextual (disch := first | (simp only [facts, clsL, clsS, clsC, isPtrD]; done) | omega | (simp only [push_nx, put_nx, del_nx]; omega) | (refine Nat.le_antisymm ?_ ?_ <;> simp only [push_nx, put_nx, del_nx] <;> omega) | fail) only [wpy, facts, wpb, cst, wpk, wpl, forall_const, implies_true, false_implies, Int.reduceLE, Int.reduceLT, Nat.reduceLeDiff, UInt8.reduceToNat, ↓reduceIte, Nat.reduceEqDiff, Nat.reduceAdd, reduceCtorEq, Int.reduceToNat, clsL, clsS, clsC, Try.f52, e0, g1, g2, g3, g8, g9, g10, g11, z1, z2, z3, z4, z5, z6, hlr]
      exact ⟨e1 - (p + 1), by omega, p + 1, e1, lim, _, qp, M7, rfl, by omega, rfl, rfl, rfl, rfl, rfl, hB.trans (hB6.trans hB7), hD7, hT6.left p1 p2 hs6 hR7 hs7⟩
    · simp +contextual (disch := first | (simp only [facts, clsL, clsS, clsC, isPtrD]; done) | omega | (simp only [push_nx, put_nx, del_nx]; omega) | (refine Nat.le_antisymm ?_ ?_ <;> simp only [push_nx, put_nx, del_nx] <;> omega) | fail) only [wpy, facts, wpb, cst, wpk, wpl, forall_const, implies_true, false_implies, Int.reduceLE, Int.reduceLT, Nat.reduceLeDiff, UInt8.reduceToNat, ↓reduceIte, Nat.reduceEqDiff, Nat.reduceAdd, reduceCtorEq, Int.reduceToNat, clsL, clsS, clsC, Try.f52, e0, g1, g2, g3, g8, g9, g10, g11, z1, z2, z3, z4, z5, z6, hlr]
      refine callF_of (hl6 ▸ IH (e1 - (p + 1)) (by omega) b (p + 1) e1 lim M6 H6 (Nat.le_refl _) (by omega) (by omega) (by omega) hb6 hD6 (split_pred hs6)) (fun k q => by rw [fresh_def]; exact .inr q) ?_
      rintro v H7 ⟨rfl, hB7, M7, hD7, hR7, hs7⟩
      simp +contextual (disch := first | (simp only [facts, clsL, clsS, clsC, isPtrD]; done) | omega | (simp only [push_nx, put_nx, del_nx]; omega) | (refine Nat.le_antisymm ?_ ?_ <;> simp only [push_nx, put_nx, del_nx] <;> omega) | fail) only [wpy, facts, wpb, cst, wpk, wpl, forall_const, implies_true, false_implies, Int.reduceLE, Int.reduceLT, Nat.reduceLeDiff, UInt8.reduceToNat, ↓reduceIte, Nat.reduceEqDiff, Nat.reduceAdd, reduceCtorEq, Int.reduceToNat, clsL, clsS, clsC, Try.f52, e0, g1, g2, g3, g8, g9, g10, g11, z1, z2, z3, z4, z5, z6, hlr]
      exact ⟨p - a1, by omega, a1, p, lim, _, qp, M7, rfl, by omega, rfl, rfl, rfl, rfl, rfl, hB.trans (hB6.trans hB7), hD7, hT6.right p1 p2 hs6 hR7 hs7⟩
end
noncomputable section
variable {S : Set0} (hS : StdS S)
include hS
theorem sort_spec (b : Nat) (L : List Int) (h : H) (hn : L.length < 2 ^ 15) (hb : b < h.nx) (hd : Dat h b L) : callW S.cfg (fun k => k = b) 49 [.slice b 0 L.length L.length] h fun v h' => v = .tuple [] ∧ But b h h' ∧ Dat h' b (srt L) := by
  refine into Try.f49 _ Try.func49 (hS.ownS _ (by decide)) rfl rfl (by kernel_rfl) (by kernel_rfl) ?_
  have z1 : IntKind.u64.wrap (L.length : Int) = (L.length : Int) := by
    unfold IntKind.wrap
    simp [IntKind.signed, IntKind.bits]
    omega
  simp +contextual (disch := first | (simp only [facts, clsL, clsS, clsC, isPtrD]; done) | omega | (simp only [push_nx, put_nx, del_nx]; omega) | (refine Nat.le_antisymm ?_ ?_ <;> simp only [push_nx, put_nx, del_nx] <;> omega) | fail) only [wpy, facts, wpb, cst, wpk, wpl, forall_const, implies_true, false_implies, Int.reduceLE, Int.reduceLT, Nat.reduceLeDiff, UInt8.reduceToNat, ↓reduceIte, Nat.reduceEqDiff, Nat.reduceAdd, reduceCtorEq, Int.reduceToNat, clsL, clsS, clsC, Try.f49, z1]
  refine callF_pure (len_spec hS L.length h (by omega)) ?_
  rintro v h1 hx1 ⟨t, rfl, _, _⟩
  have hb1 : b < h1.nx := Nat.lt_of_lt_of_le hb hx1.1
  have hd1 : Dat h1 b L := by unfold Dat; rw [hx1.2 b hb]; exact hd
  simp +contextual (disch := first | (simp only [facts, clsL, clsS, clsC, isPtrD]; done) | omega | (simp only [push_nx, put_nx, del_nx]; omega) | (refine Nat.le_antisymm ?_ ?_ <;> simp only [push_nx, put_nx, del_nx] <;> omega) | fail) only [wpy, facts, wpb, cst, wpk, wpl, forall_const, implies_true, false_implies, Int.reduceLE, Int.reduceLT, Nat.reduceLeDiff, UInt8.reduceToNat, ↓reduceIte, Nat.reduceEqDiff, Nat.reduceAdd, reduceCtorEq, Int.reduceToNat, clsL, clsS, clsC, Try.f49, z1]
  refine callF_of (pdq_spec hS L.length b 0 L.length t L h1 (by omega) (by omega) (Nat.le_refl _) hn hb1 hd1 (.inl rfl)) (fun k q => by rw [fresh_def]; exact .inr q) ?_
  rintro v h2 ⟨rfl, hB2, M, hD2, hR2, hs2⟩
  simp +contextual (disch := first | (simp only [facts, clsL, clsS, clsC, isPtrD]; done) | omega | (simp only [push_nx, put_nx, del_nx]; omega) | (refine Nat.le_antisymm ?_ ?_ <;> simp only [push_nx, put_nx, del_nx] <;> omega) | fail) only [wpy, facts, wpb, cst, wpk, wpl, forall_const, implies_true, false_implies, Int.reduceLE, Int.reduceLT, Nat.reduceLeDiff, UInt8.reduceToNat, ↓reduceIte, Nat.reduceEqDiff, Nat.reduceAdd, reduceCtorEq, Int.reduceToNat, clsL, clsS, clsC, Try.f49]
  refine ⟨(But.of_ext hx1).trans hB2, ?_⟩
  rw [← srt_of_SR hR2.perm (by rw [hR2.len]; exact hs2)]
  exact hD2
omit hS in
theorem intsOf_kv : ∀ L : List Int, intsOf .u32 (kv L) = some L
  | [] => rfl
  | x :: L => by
    show (if IntKind.u32 = IntKind.u32 then (match intsOf .u32 (kv L) with | some r => some (x :: r) | none => none) else none) = _
    rw [if_pos rfl, intsOf_kv L]
theorem sorts : Sorts S.cfg 49 .u32 27 := by
  intro π hl
  have hwf : WF (T.set .leaf 0 (some (Ob.cells (π.map (V.int .u32)) 27 true))) 1 := by
    intro k hk
    by_cases h0 : k = 0
    · omega
    · rw [T.get_set_ne _ _ h0] at hk
      exact absurd (T.get_leaf k) hk
  have hd : Dat (⟨T.set .leaf 0 (some (Ob.cells (π.map (V.int .u32)) 27 true)), 1⟩ : H) 0 π := by
    show T.get (T.set .leaf 0 _) 0 = _
    rw [T.get_set_same]
    rfl
  obtain ⟨v, h', lf, n, l, hrun, rfl, _, hD⟩ := callW_runH hwf (sort_spec hS 0 π ⟨T.set .leaf 0 (some (Ob.cells (π.map (V.int .u32)) 27 true)), 1⟩ (by omega) Nat.one_pos hd)
  refine ⟨lf, n, ?_⟩
  unfold sortRun
  have hrun' : callM { S.cfg with lf := lf } (n + 1) 49 [.slice 0 0 π.length π.length] (keySt .u32 27 π) = .ok (.tuple []) ⟨h'.heap, h'.nx, l⟩ := hrun
  rw [hrun']
  have hD' : h'.heap.get 0 = some (.cells (kv (srt π)) 27 true) := hD
  simp only [hD', intsOf_kv]
  rfl
end
end Go.Proofs.Ytcccbbgjmjnagaa
