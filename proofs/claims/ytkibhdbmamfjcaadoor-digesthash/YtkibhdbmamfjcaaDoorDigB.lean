/-
  Several texts of one walk, joined.
-/
import Derived.Test.YtkibhdbmamfjcaaDoorDigA
/-
  sha: SHA-256 walked: what it computes, as the machine's numbers.
-/
set_option linter.unusedSimpArgs false
set_option linter.unusedVariables false
set_option linter.unusedSectionVars false
set_option linter.defProp false
set_option maxRecDepth 10000
namespace Go.Proofs.YtkibhdbmamfjcaaDoor
open Go.Proofs Go.Lx Go.Wx Go.IntWalk
noncomputable section

theorem wrap_u64 (z : Int) : 0 ≤ IntKind.u64.wrap z := by
  unfold IntKind.wrap
  simp [IntKind.signed, IntKind.bits]
  omega
def rotF (x n : Int) : Int := iOr .u32 (iShl .u32 x (iAnd .u64 (IntKind.u64.wrap n) 31)) (iShr .u32 x (IntKind.u64.wrap (32 - iAnd .u64 (IntKind.u64.wrap n) 31)))
def rorF (x n : Int) : Int := rotF x (IntKind.i64.wrap (0 - n))
def wordF (a b c d : Nat) : Int := iOr .u32 (iOr .u32 (iOr .u32 (iShl .u32 (IntKind.u32.wrap (a : Nat)) 24) (iShl .u32 (IntKind.u32.wrap (b : Nat)) 16)) (iShl .u32 (IntKind.u32.wrap (c : Nat)) 8)) (IntKind.u32.wrap (d : Nat))

def KL : List Int := [1116352408,1899447441,3049323471,3921009573,961987163,1508970993,2453635748,2870763221,3624381080,310598401,607225278,1426881987,1925078388,2162078206,2614888103,3248222580,3835390401,4022224774,264347078,604807628,770255983,1249150122,1555081692,1996064986,2554220882,2821834349,2952996808,3210313671,3336571891,3584528711,113926993,338241895,666307205,773529912,1294757372,1396182291,1695183700,1986661051,2177026350,2456956037,2730485921,2820302411,3259730800,3345764771,3516065817,3600352804,4094571909,275423344,430227734,506948616,659060556,883997877,958139571,1322822218,1537002063,1747873779,1955562222,2024104815,2227730452,2361852424,2428436474,2756734187,3204031479,3329325298]
def s0F (w : Int) : Int := iXor .u32 (iXor .u32 (rorF w 7) (rorF w 18)) (iShr .u32 w 3)
def s1F (w : Int) : Int := iXor .u32 (iXor .u32 (rorF w 17) (rorF w 19)) (iShr .u32 w 10)
/-- the t-th word of the schedule -/
def wv (rest : List Nat) (W : List Int) (t : Nat) : Int := if t < 16 then wordF (rest.getD (4 * t) 0) (rest.getD (4 * t + 1) 0) (rest.getD (4 * t + 2) 0) (rest.getD (4 * t + 3) 0) else IntKind.u32.wrap (IntKind.u32.wrap (IntKind.u32.wrap (s1F (W.getD (t - 2) 0) + W.getD (t - 7) 0) + s0F (W.getD (t - 15) 0)) + W.getD (t - 16) 0)
def wS (rest : List Nat) : Nat → List Int
  | 0 => List.replicate 64 0
  | t + 1 => (wS rest t).set t (wv rest (wS rest t) t)
theorem wS_len (rest : List Nat) : ∀ t, (wS rest t).length = 64
  | 0 => rfl
  | t + 1 => by rw [wS, List.length_set, wS_len rest t]
def xF (W v : List Int) (t : Nat) : Int := IntKind.u32.wrap (IntKind.u32.wrap (IntKind.u32.wrap (IntKind.u32.wrap (v.getD 7 0 + iXor .u32 (iXor .u32 (rorF (v.getD 4 0) 6) (rorF (v.getD 4 0) 11)) (rorF (v.getD 4 0) 25)) + iXor .u32 (iAnd .u32 (v.getD 4 0) (v.getD 5 0)) (iAnd .u32 (iXor .u32 IntKind.u32.max (v.getD 4 0)) (v.getD 6 0))) + KL.getD t 0) + W.getD t 0)
def yF (v : List Int) : Int := IntKind.u32.wrap (iXor .u32 (iXor .u32 (rorF (v.getD 0 0) 2) (rorF (v.getD 0 0) 13)) (rorF (v.getD 0 0) 22) + iXor .u32 (iXor .u32 (iAnd .u32 (v.getD 0 0) (v.getD 1 0)) (iAnd .u32 (v.getD 0 0) (v.getD 2 0))) (iAnd .u32 (v.getD 1 0) (v.getD 2 0)))
def vstep (W v : List Int) (t : Nat) : List Int := [IntKind.u32.wrap (xF W v t + yF v), v.getD 0 0, v.getD 1 0, v.getD 2 0, IntKind.u32.wrap (v.getD 3 0 + xF W v t), v.getD 4 0, v.getD 5 0, v.getD 6 0]
def vS (W ws : List Int) : Nat → List Int
  | 0 => ws
  | t + 1 => vstep W (vS W ws t) t
theorem vS_len {W ws : List Int} (hw : ws.length = 8) : ∀ t, (vS W ws t).length = 8
  | 0 => hw
  | t + 1 => rfl
def aS (ws v : List Int) : Nat → List Int
  | 0 => ws
  | i + 1 => (aS ws v i).set i (IntKind.u32.wrap ((aS ws v i).getD i 0 + v.getD i 0))
theorem aS_len {ws v : List Int} (hw : ws.length = 8) : ∀ t, (aS ws v t).length = 8
  | 0 => hw
  | t + 1 => by rw [aS, List.length_set, aS_len hw t]
/-- what a block does to the words -/
def blkF (ws : List Int) (rest : List Nat) : List Int := aS ws (vS (wS rest 64) ws 64) 8
theorem blkF_len {ws : List Int} {rest : List Nat} (hw : ws.length = 8) : (blkF ws rest).length = 8 := aS_len hw 8
theorem intsV_get {l : List Int} {n i : Nat} (hl : l.length = n) (hi : i < n) : (l.map (V.int .u32))[i]? = some (.int .u32 (l.getD i 0)) := by
  rw [List.getElem?_map, List.getD_eq_getElem?_getD, List.getElem?_eq_getElem (by omega)]
  rfl
theorem intsV_set {l : List Int} {n i : Nat} (hl : l.length = n) (hi : i < n) (x : Int) : listPut (l.map (V.int .u32)) i [.int .u32 x] = (l.set i x).map (V.int .u32) := by
  rw [listPut_one, List.map_set]

/-- a hash's cells -/
def hashC (ws : List Int) (rest : List Nat) (n all : Int) : List V := .int .i64 2 :: (ws.map (V.int .u32) ++ (bytesV rest ++ [.int .i64 n, .int .i64 all]))
section
variable {ws : List Int} {rest : List Nat} {n all : Int} (hw : ws.length = 8) (hr : rest.length = 64)
theorem bytesV_len (l : List Nat) : (bytesV l).length = l.length := by simp [bytesV]
include hw hr
theorem hashC_len : (hashC ws rest n all).length = 75 := by simp [hashC, bytesV_len, hw, hr]
theorem hashC_w {i : Nat} (hi : i < 8) : (hashC ws rest n all)[1 + i]? = some (.int .u32 (ws.getD i 0)) := by
  rw [hashC, Nat.add_comm, List.getElem?_cons_succ, List.getElem?_append_left (by simp [hw]; exact hi), List.getElem?_map, List.getElem?_eq_getElem (by omega), List.getD_eq_getElem?_getD, List.getElem?_eq_getElem (by omega)]
  rfl
theorem hashC_r {i : Nat} (hi : i < 64) : (hashC ws rest n all)[9 + i]? = some (.int .u8 (rest.getD i 0 : Nat)) := by
  rw [hashC, show 9 + i = (8 + i) + 1 by omega, List.getElem?_cons_succ, List.getElem?_append_right (by simp [hw]), List.length_map, hw, Nat.add_sub_cancel_left, List.getElem?_append_left (by rw [bytesV_len]; omega), bytesV, List.getElem?_map, List.getElem?_eq_getElem (by omega), List.getD_eq_getElem?_getD, List.getElem?_eq_getElem (by omega)]
  rfl
theorem hashC_n : (hashC ws rest n all)[73]? = some (.int .i64 n) := by
  rw [hashC, show 73 = (8 + 64) + 1 from rfl, List.getElem?_cons_succ, List.getElem?_append_right (by simp [hw]), List.length_map, hw, Nat.add_sub_cancel_left, List.getElem?_append_right (by rw [bytesV_len]; omega), bytesV_len, hr]
  rfl
theorem hashC_all : (hashC ws rest n all)[74]? = some (.int .i64 all) := by
  rw [hashC, show 74 = (8 + 65) + 1 from rfl, List.getElem?_cons_succ, List.getElem?_append_right (by simp [hw]), List.length_map, hw, Nat.add_sub_cancel_left, List.getElem?_append_right (by rw [bytesV_len]; omega), bytesV_len, hr]
  rfl
theorem hashC_words : ((hashC ws rest n all).drop 1).take 8 = ws.map (V.int .u32) := by
  rw [hashC, List.drop_succ_cons, List.drop_zero, List.take_append_of_le_length (by simp [hw]), List.take_of_length_le (by simp [hw])]
theorem hashC_set_n (n' : Int) : listPut (hashC ws rest n all) 73 [.int .i64 n'] = hashC ws rest n' all := by
  rw [listPut_one, hashC, show 73 = (8 + 64) + 1 from rfl, List.set_cons_succ, List.set_append_right _ _ (by simp [hw]), List.length_map, hw, Nat.add_sub_cancel_left, List.set_append_right _ _ (by rw [bytesV_len]; omega), bytesV_len, hr]
  rfl
theorem hashC_set_all (a' : Int) : listPut (hashC ws rest n all) 74 [.int .i64 a'] = hashC ws rest n a' := by
  rw [listPut_one, hashC, show 74 = (8 + 65) + 1 from rfl, List.set_cons_succ, List.set_append_right _ _ (by simp [hw]), List.length_map, hw, Nat.add_sub_cancel_left, List.set_append_right _ _ (by rw [bytesV_len]; omega), bytesV_len, hr]
  rfl
theorem hashC_set_r {i : Nat} (hi : i < 64) (x : Nat) : listPut (hashC ws rest n all) (9 + i) [.int .u8 (x : Nat)] = hashC ws (rest.set i x) n all := by
  rw [listPut_one, hashC, show 9 + i = (8 + i) + 1 by omega, List.set_cons_succ, List.set_append_right _ _ (by simp [hw]), List.length_map, hw, Nat.add_sub_cancel_left, List.set_append_left _ _ (by rw [bytesV_len]; omega), bytesV, ← List.map_set]
  rfl
theorem hashC_set_w {i : Nat} (hi : i < 8) (x : Int) : listPut (hashC ws rest n all) (1 + i) [.int .u32 x] = hashC (ws.set i x) rest n all := by
  rw [listPut_one, hashC, Nat.add_comm, List.set_cons_succ, List.set_append_left _ _ (by simp [hw]; exact hi), ← List.map_set]
  rfl
end

/-- the setting: sha's functions are gone into -/
structure StdH (S : Set0) : Prop extends StdD S where
  ownH : ∀ f, f ∈ [25, 51, 91, 92, 93, 130, 131, 147, 129, 152, 154, 153, 155, 7] → sums S.exts f = none
  livesD : ∀ h : H, Exact S.cfg 21 [] h (.bool true)

variable {S : Set0} (hS : StdH S)
include hS
theorem rot_spec (x n : Int) (h : H) : Exact S.cfg 153 [.int .u32 x, .int .i64 n] h (.int .u32 (rotF x n)) := by
  refine into Tryd.f153 _ Tryd.func153 (hS.ownH _ (by decide)) rfl rfl (by kernel_rfl) (by kernel_rfl) ?_
  have w1 : ¬ iAnd .u64 (IntKind.u64.wrap n) 31 < 0 := by have := wrap_u64 ((BitVec.ofInt IntKind.u64.bits (IntKind.u64.wrap n) &&& BitVec.ofInt IntKind.u64.bits 31).toNat); unfold iAnd; omega
  have w2 : ¬ IntKind.u64.wrap (32 - iAnd .u64 (IntKind.u64.wrap n) 31) < 0 := by have := wrap_u64 (32 - iAnd .u64 (IntKind.u64.wrap n) 31); omega
  simp +contextual (disch := first | (simp only [factsC, clsL, clsS, clsC, isPtrD]; done) | omega | (simp only [push_nx, put_nx, del_nx]; omega) | (refine Nat.le_antisymm ?_ ?_ <;> simp only [push_nx, put_nx, del_nx] <;> omega) | fail) only [wpy, factsC, wpb, cst, wpk, wpl, forall_const, implies_true, false_implies, Int.reduceLE, Int.reduceLT, Nat.reduceLeDiff, UInt8.reduceToNat, ↓reduceIte, Nat.reduceEqDiff, Nat.reduceAdd, reduceCtorEq, Int.reduceToNat, clsL, clsS, clsC, Tryd.f153, w1, w2]
  rfl
theorem ror_spec (x n : Int) (h : H) : Exact S.cfg 154 [.int .u32 x, .int .i64 n] h (.int .u32 (rorF x n)) := by
  refine into Tryd.f154 _ Tryd.func154 (hS.ownH _ (by decide)) rfl rfl (by kernel_rfl) (by kernel_rfl) ?_
  simp +contextual (disch := first | (simp only [factsC, clsL, clsS, clsC, isPtrD]; done) | omega | (simp only [push_nx, put_nx, del_nx]; omega) | (refine Nat.le_antisymm ?_ ?_ <;> simp only [push_nx, put_nx, del_nx] <;> omega) | fail) only [wpy, factsC, wpb, cst, wpk, wpl, forall_const, implies_true, false_implies, Int.reduceLE, Int.reduceLT, Nat.reduceLeDiff, UInt8.reduceToNat, ↓reduceIte, Nat.reduceEqDiff, Nat.reduceAdd, reduceCtorEq, Int.reduceToNat, clsL, clsS, clsC, Tryd.f154]
  refine callF_exact (rot_spec hS _ _ _) ?_
  simp +contextual (disch := first | (simp only [factsC, clsL, clsS, clsC, isPtrD]; done) | omega | (simp only [push_nx, put_nx, del_nx]; omega) | (refine Nat.le_antisymm ?_ ?_ <;> simp only [push_nx, put_nx, del_nx] <;> omega) | fail) only [wpy, factsC, wpb, cst, wpk, wpl, forall_const, implies_true, false_implies, Int.reduceLE, Int.reduceLT, Nat.reduceLeDiff, UInt8.reduceToNat, ↓reduceIte, Nat.reduceEqDiff, Nat.reduceAdd, reduceCtorEq, Int.reduceToNat, clsL, clsS, clsC, Tryd.f154]
  rfl
theorem word_spec (b o n m : Nat) (a0 a1 a2 a3 : Nat) (c : List V) (e : TypeId) (fl : Bool) (h : H) (hn : 4 ≤ n) (b0 : a0 < 256) (b1 : a1 < 256) (b2 : a2 < 256) (b3 : a3 < 256) (hg : h.get b = some (.cells c e fl)) (g0 : c[o]? = some (.int .u8 (a0 : Nat))) (g1 : c[o + 1]? = some (.int .u8 (a1 : Nat))) (g2 : c[o + 2]? = some (.int .u8 (a2 : Nat))) (g3 : c[o + 3]? = some (.int .u8 (a3 : Nat))) : Exact S.cfg 152 [.slice b o n m] h (.int .u32 (wordF a0 a1 a2 a3)) := by
  refine into Tryd.f152 _ Tryd.func152 (hS.ownH _ (by decide)) rfl rfl (by kernel_rfl) (by kernel_rfl) ?_
  have k0 : 0 < n := by omega
  have k1 : 1 < n := by omega
  have k2 : 2 < n := by omega
  have k3 : 3 < n := by omega
  simp +contextual (disch := first | (simp only [factsC, clsL, clsS, clsC, isPtrD]; done) | omega | (simp only [push_nx, put_nx, del_nx]; omega) | (refine Nat.le_antisymm ?_ ?_ <;> simp only [push_nx, put_nx, del_nx] <;> omega) | exact dok (by kernel_rfl)) only [draw_calm, draw_calmA, wpy, factsC, wpb, cst, wpk, wpl, forall_const, implies_true, false_implies, Int.reduceLE, Int.reduceLT, Nat.reduceLeDiff, UInt8.reduceToNat, ↓reduceIte, Nat.reduceEqDiff, Nat.reduceAdd, reduceCtorEq, Int.reduceToNat, clsL, clsS, clsC, Tryd.f152, hg, g0, g1, g2, g3, k0, k1, k2, k3]
  rfl
/-- the first words -/
def startL : List Int := [1779033703, 3144134277, 1013904242, 2773480762, 1359893119, 2600822924, 528734635, 1541459225]
omit hS in
theorem ne21 : ((2 : Int) = 1) = False := by decide
omit hS in
theorem ne21n : ((2 : Nat) = 1) = False := by decide
theorem starts_spec (h : H) : Pure S.cfg 129 [.int .i64 2] h fun v _ => v = .agg (startL.map (V.int .u32)) := by
  refine into Tryd.f129 _ Tryd.func129 (hS.ownH _ (by decide)) rfl rfl (by kernel_rfl) (by kernel_rfl) ?_
  simp +contextual (disch := first | (simp only [factsC, clsL, clsS, clsC, isPtrD]; done) | omega | (simp only [push_nx, put_nx, del_nx]; omega) | (refine Nat.le_antisymm ?_ ?_ <;> simp only [push_nx, put_nx, del_nx] <;> omega) | fail) only [wpy, factsC, wpb, cst, wpk, wpl, forall_const, implies_true, false_implies, Int.reduceLE, Int.reduceLT, Nat.reduceLeDiff, UInt8.reduceToNat, ↓reduceIte, Nat.reduceEqDiff, Nat.reduceAdd, reduceCtorEq, Int.reduceToNat, clsL, clsS, clsC, Tryd.f129, ne21, ne21n]
  exact ⟨Ext.new _ _ _, rfl⟩
theorem none_spec (b : Nat) (k : Int) (c : List V) (e : TypeId) (h : H) (hk : ¬ k = 0) (hg : h.get b = some (.cells (.int .i64 k :: c) e false)) : Exact S.cfg 130 [.ptr b 0] h (bo False) := by
  refine into Tryd.f130 _ Tryd.func130 (hS.ownH _ (by decide)) rfl rfl (by kernel_rfl) (by kernel_rfl) ?_
  simp +contextual (disch := first | (simp only [factsC, clsL, clsS, clsC, isPtrD]; done) | omega | (simp only [push_nx, put_nx, del_nx]; omega) | (refine Nat.le_antisymm ?_ ?_ <;> simp only [push_nx, put_nx, del_nx] <;> omega) | fail) only [wpy, factsC, wpb, cst, wpk, wpl, forall_const, implies_true, false_implies, Int.reduceLE, Int.reduceLT, Nat.reduceLeDiff, UInt8.reduceToNat, ↓reduceIte, Nat.reduceEqDiff, Nat.reduceAdd, reduceCtorEq, Int.reduceToNat, clsL, clsS, clsC, Tryd.f130, hg, hk]
theorem new_spec (h : H) : Pure S.cfg 91 [.int .i64 2] h fun v h' => ∃ b, v = .tuple [.ptr b 0, .int .i64 0] ∧ h.nx ≤ b ∧ b < h'.nx ∧ h'.get b = some (.cells (hashC startL (List.replicate 64 0) 0 0) 140 false) := by
  refine into Tryd.f91 _ Tryd.func91 (hS.ownH _ (by decide)) rfl rfl (by kernel_rfl) (by kernel_rfl) ?_
  simp +contextual (disch := first | (simp only [factsC, clsL, clsS, clsC, isPtrD]; done) | omega | (simp only [push_nx, put_nx, del_nx]; omega) | (refine Nat.le_antisymm ?_ ?_ <;> simp only [push_nx, put_nx, del_nx] <;> omega) | fail) only [wpy, factsC, wpb, cst, wpk, wpl, forall_const, implies_true, false_implies, Int.reduceLE, Int.reduceLT, Nat.reduceLeDiff, UInt8.reduceToNat, ↓reduceIte, Nat.reduceEqDiff, Nat.reduceAdd, reduceCtorEq, Int.reduceToNat, clsL, clsS, clsC, Tryd.f91, ne21, ne21n]
  refine callF_pure (starts_spec hS _) ?_
  rintro v h1 hx rfl
  simp +contextual (disch := first | (simp only [factsC, clsL, clsS, clsC, isPtrD]; done) | omega | (simp only [push_nx, put_nx, del_nx]; omega) | (refine Nat.le_antisymm ?_ ?_ <;> simp only [push_nx, put_nx, del_nx] <;> omega) | fail) only [wpy, factsC, wpb, cst, wpk, wpl, forall_const, implies_true, false_implies, Int.reduceLE, Int.reduceLT, Nat.reduceLeDiff, UInt8.reduceToNat, ↓reduceIte, Nat.reduceEqDiff, Nat.reduceAdd, reduceCtorEq, Int.reduceToNat, clsL, clsS, clsC, Tryd.f91, startL]
  exact ⟨hx.push _, h1.nx, rfl, hx.1, Nat.lt_succ_self _, by rw [push_eq rfl]; rfl⟩
theorem consts_spec (h : H) : Pure S.cfg 155 [] h fun v _ => v = .agg (KL.map (V.int .u32)) := by
  refine into Tryd.f155 _ Tryd.func155 (hS.ownH _ (by decide)) rfl rfl (by kernel_rfl) (by kernel_rfl) ?_
  simp +contextual (disch := first | (simp only [factsC, clsL, clsS, clsC, isPtrD]; done) | omega | (simp only [push_nx, put_nx, del_nx]; omega) | (refine Nat.le_antisymm ?_ ?_ <;> simp only [push_nx, put_nx, del_nx] <;> omega) | fail) only [wpy, factsC, wpb, cst, wpk, wpl, forall_const, implies_true, false_implies, Int.reduceLE, Int.reduceLT, Nat.reduceLeDiff, UInt8.reduceToNat, ↓reduceIte, Nat.reduceEqDiff, Nat.reduceAdd, reduceCtorEq, Int.reduceToNat, clsL, clsS, clsC, Tryd.f155]
  exact ⟨Ext.new _ _ _, rfl⟩
end
end Go.Proofs.YtkibhdbmamfjcaaDoor

/-
  sha: a block of SHA-256.
-/
set_option linter.unusedSimpArgs false
set_option linter.unusedVariables false
set_option linter.defProp false
set_option maxRecDepth 10000
namespace Go.Proofs.YtkibhdbmamfjcaaDoor
open Go.Proofs Go.Lx Go.Wx Go.IntWalk
noncomputable section

/-- what a call that writes one block leaves -/
def ButS (r : Nat) (h h' : H) : Prop := h.nx ≤ h'.nx ∧ ∀ k, k < h.nx → k ≠ r → h'.get k = h.get k
theorem ButS.refl (r : Nat) (h : H) : ButS r h h := ⟨Nat.le_refl _, fun _ _ _ => rfl⟩
theorem ButS.trans {r : Nat} {a b c : H} (x : ButS r a b) (y : ButS r b c) : ButS r a c := ⟨Nat.le_trans x.1 y.1, fun k hk hr => by rw [y.2 k (Nat.lt_of_lt_of_le hk x.1) hr, x.2 k hk hr]⟩
theorem ButS.of_ext {r : Nat} {a b : H} (x : Ext a b) : ButS r a b := ⟨x.1, fun k hk _ => x.2 k hk⟩
theorem ButS.put {r : Nat} {a b : H} (x : ButS r a b) (o : Ob) : ButS r a (b.put r o) := ⟨x.1, fun k hk hr => by rw [put_get, if_neg hr, x.2 k hk hr]⟩
/-- operations that only look keep apart -/
def Looks (n : Nat) : Fp → Prop
  | .lg l => ∀ e ∈ l, e.isW = false
  | .cl n0 n1 Ok => n0 = n ∧ n1 = n ∧ ∀ k, ¬ Ok k
theorem hits_look : ∀ {a b : List LE}, (∀ e ∈ a, e.isW = false) → (∀ e ∈ b, e.isW = false) → hitsL a b = false ∧ hitsL b a = false := by
  intro a b ha hb
  constructor
  · exact hitsL_reads ha
  · exact hitsL_reads hb
theorem looks_apart {n : Nat} {f g : Fp} (hf : Looks n f) (hg : Looks n g) : fpApart f g := by
  cases f with
  | lg a =>
    cases g with
    | lg b => exact hits_look hf hg
    | cl n0 n1 Ok =>
      obtain ⟨h1, h2, hk⟩ := hg
      exact fun e he => ⟨hf e he, by omega, hk _⟩
  | cl n0 n1 Ok =>
    obtain ⟨h1, h2, hk⟩ := hf
    cases g with
    | lg b => exact fun e he => (Nat.lt_or_ge (blkOf e) n0).elim (fun q => .inr ⟨hg e he, q, hk _⟩) fun q => .inl (by omega)
    | cl m0 m1 Ok' =>
      obtain ⟨h3, h4, hk'⟩ := hg
      exact ⟨by omega, hk, by omega, hk'⟩
theorem look_nil {n : Nat} : Looks n (.lg []) := fun e he => by cases he
theorem look_rd {n k o m : Nat} : Looks n (.lg [.rd k o m]) := fun e he => by rw [List.mem_singleton] at he; subst he; rfl
theorem look_cl {n : Nat} : Looks n (.cl n n nil1) := ⟨rfl, rfl, fun _ h => h⟩
theorem looks_pairs {n : Nat} {l : List Fp} (h : ∀ f ∈ l, Looks n f) (pairs : List (Nat × Nat)) : ∀ p ∈ pairs, ∀ a b, l[p.1]? = some a → l[p.2]? = some b → fpApart a b := fun p _ a b ha hb => looks_apart (h a (List.mem_of_getElem? ha)) (h b (List.mem_of_getElem? hb))

theorem idxOk_agg (d : Option TypeDesc) (P : Program) (t : TypeId) (cs : List V) (i : V) : idxOk d P t (.agg cs) i = okO (indexV P t (.agg cs) i) := by
  unfold idxOk
  split <;> first | rfl | (rename_i h; cases h)
theorem idxT_agg (P : Program) (t : TypeId) (cs : List V) (i : V) : idxT P t (.agg cs) i = getO' (indexV P t (.agg cs) i) := rfl
theorem wS_succ (rest : List Nat) (t : Nat) : wS rest (t + 1) = (wS rest t).set t (wv rest (wS rest t) t) := rfl
theorem vS_succ (W ws : List Int) (t : Nat) : vS W ws (t + 1) = vstep W (vS W ws t) t := rfl

variable {S : Set0} (hS : StdH S)
include hS
set_option maxHeartbeats 4000000 in
theorem block2_spec (b : Nat) (ws : List Int) (rest : List Nat) (n all : Int) (h : H) (hw : ws.length = 8) (hr : rest.length = 64) (hrb : Bytes rest) (hb : b < h.nx) (hg : h.get b = some (.cells (hashC ws rest n all) 140 false)) : callW S.cfg (fun k => k = b) 147 [.ptr b 0] h fun v h' => v = .tuple [] ∧ ButS b h h' ∧ h'.get b = some (.cells (hashC (blkF ws rest) rest n all) 140 false) := by
  refine into Tryd.f147 _ Tryd.func147 (hS.ownH _ (by decide)) rfl rfl (by kernel_rfl) (by kernel_rfl) ?_
  have r1 : ∀ i, i < 64 → (hashC ws rest n all)[9 + i]? = some (.int .u8 (rest.getD i 0 : Nat)) := fun i hi => hashC_r hw hr hi
  have rb : ∀ i, rest.getD i 0 < 256 := fun i => by
    rw [List.getD_eq_getElem?_getD]
    by_cases hi : i < rest.length
    · rw [List.getElem?_eq_getElem hi]; exact hrb _ (List.getElem_mem hi)
    · rw [List.getElem?_eq_none (by omega)]; decide
  simp +contextual (disch := first | (simp only [factsC, clsL, clsS, clsC, isPtrD]; done) | omega | (simp only [push_nx, put_nx, del_nx]; omega) | (refine Nat.le_antisymm ?_ ?_ <;> simp only [push_nx, put_nx, del_nx] <;> omega) | fail) only [wpy, factsC, wpb, cst, wpk, wpl, forall_const, implies_true, false_implies, Int.reduceLE, Int.reduceLT, Nat.reduceLeDiff, UInt8.reduceToNat, ↓reduceIte, Nat.reduceEqDiff, Nat.reduceAdd, reduceCtorEq, Int.reduceToNat, clsL, clsS, clsC, Tryd.f147]
  refine run_loop (fun k env h' => ∃ t : Nat, k = 64 - t ∧ t ≤ 64 ∧ env 0 = .ptr b 0 ∧ env 2 = .ptr h.nx 0 ∧ env 20 = .int .i64 t ∧ h.nx < h'.nx ∧ Ext h h' ∧ h'.get h.nx = some (.cells ((wS rest t).map (V.int .u32)) 176 false)) 64 ⟨0, ?_⟩ ?_
  · simp +contextual (disch := first | (simp only [factsC, clsL, clsS, clsC, isPtrD]; done) | omega | (simp only [push_nx, put_nx, del_nx]; omega) | (refine Nat.le_antisymm ?_ ?_ <;> simp only [push_nx, put_nx, del_nx] <;> omega) | fail) only [wpy, factsC, wpb, cst, wpk, wpl, forall_const, implies_true, false_implies, Int.reduceLE, Int.reduceLT, Nat.reduceLeDiff, UInt8.reduceToNat, ↓reduceIte, Nat.reduceEqDiff, Nat.reduceAdd, reduceCtorEq, Int.reduceToNat, clsL, clsS, clsC]
    exact ⟨by omega, (Ext.refl h).push _, by first | rfl | (rw [push_eq rfl]; rfl)⟩
  rintro k env h' ⟨t, rfl, ht, e0, e2, e20, hn, hx, hgw⟩
  have hgb : h'.get b = some (.cells (hashC ws rest n all) 140 false) := by rw [hx.2 b hb]; exact hg
  have wl := wS_len rest t
  by_cases ht2 : t < 64
  · by_cases ht3 : t < 16
    · have w4 : IntKind.i64.wrap (4 * (t : Int)) = ((4 * t : Nat) : Int) := by
        unfold IntKind.wrap
        simp [IntKind.signed, IntKind.bits]
        omega
      have hset : ∀ x, listPut ((wS rest t).map (V.int .u32)) t [.int .u32 x] = ((wS rest t).set t x).map (V.int .u32) := fun x => intsV_set wl ht2 x
      simp +contextual (disch := first | (simp only [factsC, clsL, clsS, clsC, isPtrD]; done) | omega | (simp only [push_nx, put_nx, del_nx]; omega) | (refine Nat.le_antisymm ?_ ?_ <;> simp only [push_nx, put_nx, del_nx] <;> omega) | fail) only [wpy, factsC, wpb, cst, wpk, wpl, forall_const, implies_true, false_implies, Int.reduceLE, Int.reduceLT, Nat.reduceLeDiff, UInt8.reduceToNat, ↓reduceIte, Nat.reduceEqDiff, Nat.reduceAdd, reduceCtorEq, Int.reduceToNat, clsL, clsS, clsC, Tryd.f147, e0, e2, e20, ht2, ht3, hgb, hgw, w4]
      refine slice_array (e := 5) (sz := 1) (n := 64) (b := b) (o := 9) (l := 4 * t) (hh := 64) (m := 64) (by kernel_rfl) D1.sz5 (by simp +contextual (disch := first | (simp only [factsC, clsL, clsS, clsC, isPtrD]; done) | omega | (simp only [push_nx, put_nx, del_nx]; omega) | (refine Nat.le_antisymm ?_ ?_ <;> simp only [push_nx, put_nx, del_nx] <;> omega) | fail) only [wpy, factsC, wpb, cst, wpk, wpl, forall_const, implies_true, false_implies, Int.reduceLE, Int.reduceLT, Nat.reduceLeDiff, UInt8.reduceToNat, ↓reduceIte, Nat.reduceEqDiff, Nat.reduceAdd, reduceCtorEq, Int.reduceToNat, clsL, clsS, clsC]) (by simp +contextual (disch := first | (simp only [factsC, clsL, clsS, clsC, isPtrD]; done) | omega | (simp only [push_nx, put_nx, del_nx]; omega) | (refine Nat.le_antisymm ?_ ?_ <;> simp only [push_nx, put_nx, del_nx] <;> omega) | fail) only [wpy, factsC, wpb, cst, wpk, wpl, forall_const, implies_true, false_implies, Int.reduceLE, Int.reduceLT, Nat.reduceLeDiff, UInt8.reduceToNat, ↓reduceIte, Nat.reduceEqDiff, Nat.reduceAdd, reduceCtorEq, Int.reduceToNat, clsL, clsS, clsC]; exact bounds_lo (by omega) (Nat.le_refl _)) ?_
      simp +contextual (disch := first | (simp only [factsC, clsL, clsS, clsC, isPtrD]; done) | omega | (simp only [push_nx, put_nx, del_nx]; omega) | (refine Nat.le_antisymm ?_ ?_ <;> simp only [push_nx, put_nx, del_nx] <;> omega) | fail) only [wpy, factsC, wpb, cst, wpk, wpl, forall_const, implies_true, false_implies, Int.reduceLE, Int.reduceLT, Nat.reduceLeDiff, UInt8.reduceToNat, ↓reduceIte, Nat.reduceEqDiff, Nat.reduceAdd, reduceCtorEq, Int.reduceToNat, clsL, clsS, clsC, Tryd.f147, e0, e2, e20, ht2, ht3]
      refine callF_exact (word_spec hS b (9 + 4 * t) _ _ (rest.getD (4 * t) 0) (rest.getD (4 * t + 1) 0) (rest.getD (4 * t + 2) 0) (rest.getD (4 * t + 3) 0) _ _ _ h' (by omega) (rb _) (rb _) (rb _) (rb _) hgb (r1 _ (by omega)) (by rw [Nat.add_assoc]; exact r1 _ (by omega)) (by rw [Nat.add_assoc]; exact r1 _ (by omega)) (by rw [Nat.add_assoc]; exact r1 _ (by omega))) ?_
      simp +contextual (disch := first | (simp only [factsC, clsL, clsS, clsC, isPtrD]; done) | omega | (simp only [push_nx, put_nx, del_nx]; omega) | (refine Nat.le_antisymm ?_ ?_ <;> simp only [push_nx, put_nx, del_nx] <;> omega) | fail) only [wpy, factsC, wpb, cst, wpk, wpl, forall_const, implies_true, false_implies, Int.reduceLE, Int.reduceLT, Nat.reduceLeDiff, UInt8.reduceToNat, ↓reduceIte, Nat.reduceEqDiff, Nat.reduceAdd, reduceCtorEq, Int.reduceToNat, clsL, clsS, clsC, Tryd.f147, e0, e2, e20, ht2, ht3, hgw, List.length_map, wl, hset]
      exact ⟨by omega, _, by omega, t + 1, rfl, by omega, rfl, hn, hx.put (Nat.le_refl _) _, by rw [wS, wv, if_pos ht3]⟩
    · obtain ⟨q, rfl⟩ : ∃ q, t = q + 16 := ⟨t - 16, by omega⟩
      have q0 : q < 64 := by omega
      have q1 : q + 1 < 64 := by omega
      have q9 : q + 9 < 64 := by omega
      have q14 : q + 14 < 64 := by omega
      have g0 := intsV_get wl q0
      have g1 := intsV_get wl q1
      have g9 := intsV_get wl q9
      have g14 := intsV_get wl q14
      have z15 : IntKind.i64.wrap (((q + 16 : Nat) : Int) - 15) = ((q + 1 : Nat) : Int) := sub_i (q + 16) 15 (by omega) (by omega)
      have z2 : IntKind.i64.wrap (((q + 16 : Nat) : Int) - 2) = ((q + 14 : Nat) : Int) := sub_i (q + 16) 2 (by omega) (by omega)
      have z7 : IntKind.i64.wrap (((q + 16 : Nat) : Int) - 7) = ((q + 9 : Nat) : Int) := sub_i (q + 16) 7 (by omega) (by omega)
      have z16 : IntKind.i64.wrap (((q + 16 : Nat) : Int) - 16) = ((q : Nat) : Int) := sub_i (q + 16) 16 (by omega) (by omega)
      have hset : ∀ x, listPut ((wS rest (q + 16)).map (V.int .u32)) (q + 16) [.int .u32 x] = ((wS rest (q + 16)).set (q + 16) x).map (V.int .u32) := fun x => intsV_set wl ht2 x
      simp +contextual (disch := first | (simp only [factsC, clsL, clsS, clsC, isPtrD]; done) | omega | (simp only [push_nx, put_nx, del_nx]; omega) | (refine Nat.le_antisymm ?_ ?_ <;> simp only [push_nx, put_nx, del_nx] <;> omega) | fail) only [wpy, factsC, wpb, cst, wpk, wpl, forall_const, implies_true, false_implies, Int.reduceLE, Int.reduceLT, Nat.reduceLeDiff, UInt8.reduceToNat, ↓reduceIte, Nat.reduceEqDiff, Nat.reduceAdd, reduceCtorEq, Int.reduceToNat, clsL, clsS, clsC, Tryd.f147, e0, e2, e20, ht2, ht3]
      refine draw_by [(3, 9), (4, 8), (4, 14), (9, 14)] (by kernel_rfl) ?_
      simp +contextual (disch := first | (simp only [factsC, clsL, clsS, clsC, isPtrD]; done) | omega | (simp only [push_nx, put_nx, del_nx]; omega) | (refine Nat.le_antisymm ?_ ?_ <;> simp only [push_nx, put_nx, del_nx] <;> omega) | fail) only [wpy, factsC, wpb, cst, wpk, wpl, forall_const, implies_true, false_implies, Int.reduceLE, Int.reduceLT, Nat.reduceLeDiff, UInt8.reduceToNat, ↓reduceIte, Nat.reduceEqDiff, Nat.reduceAdd, reduceCtorEq, Int.reduceToNat, clsL, clsS, clsC, Tryd.f147, e0, e2, e20, ht2, ht3, hgw, g1, q1, z15]
      refine callF_exact (ror_spec hS _ _ _) ?_
      simp +contextual (disch := first | (simp only [factsC, clsL, clsS, clsC, isPtrD]; done) | omega | (simp only [push_nx, put_nx, del_nx]; omega) | (refine Nat.le_antisymm ?_ ?_ <;> simp only [push_nx, put_nx, del_nx] <;> omega) | fail) only [wpy, factsC, wpb, cst, wpk, wpl, forall_const, implies_true, false_implies, Int.reduceLE, Int.reduceLT, Nat.reduceLeDiff, UInt8.reduceToNat, ↓reduceIte, Nat.reduceEqDiff, Nat.reduceAdd, reduceCtorEq, Int.reduceToNat, clsL, clsS, clsC, Tryd.f147, e0, e2, e20, ht2, ht3, hgw, g1, q1, z15]
      refine callF_exact (ror_spec hS _ _ _) ?_
      simp +contextual (disch := first | (simp only [factsC, clsL, clsS, clsC, isPtrD]; done) | omega | (simp only [push_nx, put_nx, del_nx]; omega) | (refine Nat.le_antisymm ?_ ?_ <;> simp only [push_nx, put_nx, del_nx] <;> omega) | fail) only [wpy, factsC, wpb, cst, wpk, wpl, forall_const, implies_true, false_implies, Int.reduceLE, Int.reduceLT, Nat.reduceLeDiff, UInt8.reduceToNat, ↓reduceIte, Nat.reduceEqDiff, Nat.reduceAdd, reduceCtorEq, Int.reduceToNat, clsL, clsS, clsC, Tryd.f147, e0, e2, e20, ht2, ht3, hgw, g1, q1, z15]
      refine ⟨looks_pairs (n := h'.nx) (by
        repeat (refine List.forall_mem_cons.2 ⟨by first | exact look_nil | exact look_rd | exact look_cl, ?_⟩)
        intro f hf
        cases hf) _, ?_⟩
      refine draw_by [(3, 9), (4, 8), (4, 14), (9, 14)] (by kernel_rfl) ?_
      simp +contextual (disch := first | (simp only [factsC, clsL, clsS, clsC, isPtrD]; done) | omega | (simp only [push_nx, put_nx, del_nx]; omega) | (refine Nat.le_antisymm ?_ ?_ <;> simp only [push_nx, put_nx, del_nx] <;> omega) | fail) only [wpy, factsC, wpb, cst, wpk, wpl, forall_const, implies_true, false_implies, Int.reduceLE, Int.reduceLT, Nat.reduceLeDiff, UInt8.reduceToNat, ↓reduceIte, Nat.reduceEqDiff, Nat.reduceAdd, reduceCtorEq, Int.reduceToNat, clsL, clsS, clsC, Tryd.f147, e0, e2, e20, ht2, ht3, hgw, g14, q14, z2]
      refine callF_exact (ror_spec hS _ _ _) ?_
      simp +contextual (disch := first | (simp only [factsC, clsL, clsS, clsC, isPtrD]; done) | omega | (simp only [push_nx, put_nx, del_nx]; omega) | (refine Nat.le_antisymm ?_ ?_ <;> simp only [push_nx, put_nx, del_nx] <;> omega) | fail) only [wpy, factsC, wpb, cst, wpk, wpl, forall_const, implies_true, false_implies, Int.reduceLE, Int.reduceLT, Nat.reduceLeDiff, UInt8.reduceToNat, ↓reduceIte, Nat.reduceEqDiff, Nat.reduceAdd, reduceCtorEq, Int.reduceToNat, clsL, clsS, clsC, Tryd.f147, e0, e2, e20, ht2, ht3, hgw, g14, q14, z2]
      refine callF_exact (ror_spec hS _ _ _) ?_
      simp +contextual (disch := first | (simp only [factsC, clsL, clsS, clsC, isPtrD]; done) | omega | (simp only [push_nx, put_nx, del_nx]; omega) | (refine Nat.le_antisymm ?_ ?_ <;> simp only [push_nx, put_nx, del_nx] <;> omega) | fail) only [wpy, factsC, wpb, cst, wpk, wpl, forall_const, implies_true, false_implies, Int.reduceLE, Int.reduceLT, Nat.reduceLeDiff, UInt8.reduceToNat, ↓reduceIte, Nat.reduceEqDiff, Nat.reduceAdd, reduceCtorEq, Int.reduceToNat, clsL, clsS, clsC, Tryd.f147, e0, e2, e20, ht2, ht3, hgw, g14, q14, z2]
      refine ⟨looks_pairs (n := h'.nx) (by
        repeat (refine List.forall_mem_cons.2 ⟨by first | exact look_nil | exact look_rd | exact look_cl, ?_⟩)
        intro f hf
        cases hf) _, ?_⟩
      simp +contextual (disch := first | (simp only [factsC, clsL, clsS, clsC, isPtrD]; done) | omega | (simp only [push_nx, put_nx, del_nx]; omega) | (refine Nat.le_antisymm ?_ ?_ <;> simp only [push_nx, put_nx, del_nx] <;> omega) | exact dok (by kernel_rfl)) only [draw_calm, draw_calmA, wpy, factsC, wpb, cst, wpk, wpl, forall_const, implies_true, false_implies, Int.reduceLE, Int.reduceLT, Nat.reduceLeDiff, UInt8.reduceToNat, ↓reduceIte, Nat.reduceEqDiff, Nat.reduceAdd, reduceCtorEq, Int.reduceToNat, clsL, clsS, clsC, Tryd.f147, e0, e2, e20, ht2, ht3, hgw, g0, g9, q0, q9, z7, z16, List.length_map, wl, hset]
      exact ⟨by omega, _, by omega, q + 16 + 1, rfl, by omega, rfl, hn, hx.put (Nat.le_refl _) _, by rw [wS_succ rest (q + 16), wv, if_neg ht3]; rfl⟩
  · obtain rfl : t = 64 := by omega
    have hcl := hashC_len hw hr (n := n) (all := all)
    have hc9 : 9 ≤ (hashC ws rest n all).length := by omega
    have hcw := hashC_words hw hr (n := n) (all := all)
    have hwm : (ws.map (V.int .u32)).length = 8 := by simp [hw]
    have hall : (ws.map (V.int .u32)).all V.isCell = true := by simp [V.isCell]
    have hpa : listPut [V.int .u32 0, .int .u32 0, .int .u32 0, .int .u32 0, .int .u32 0, .int .u32 0, .int .u32 0, .int .u32 0] 0 (ws.map (V.int .u32)) = ws.map (V.int .u32) := listPut_all _ _ (by rw [hwm]; rfl)
    simp +contextual (disch := first | (simp only [factsC, clsL, clsS, clsC, isPtrD]; done) | omega | (simp only [push_nx, put_nx, del_nx]; omega) | (refine Nat.le_antisymm ?_ ?_ <;> simp only [push_nx, put_nx, del_nx] <;> omega) | fail) only [wpy, factsC, wpb, cst, wpk, wpl, forall_const, implies_true, false_implies, Int.reduceLE, Int.reduceLT, Nat.reduceLeDiff, UInt8.reduceToNat, ↓reduceIte, Nat.reduceEqDiff, Nat.reduceAdd, reduceCtorEq, Int.reduceToNat, clsL, clsS, clsC, Tryd.f147, e0, e2, e20, ht2, hgb, hgw, hc9, hcw, hwm, hall, hpa]
    refine ⟨.inr (.inl (by omega)), ?_⟩
    refine callF_pure (consts_spec hS _) ?_
    rintro v h3 hx3 rfl
    have hX3 : Ext h h3 := (hx.trans (Ext.new _ _ _)).trans hx3
    have hn3 : h'.nx + 1 ≤ h3.nx := hx3.1
    have ga3 : h3.get h'.nx = some (.cells (ws.map (V.int .u32)) 136 false) := by rw [hx3.2 h'.nx (Nat.lt_succ_self _), put_eq rfl]
    have gw3 : h3.get h.nx = some (.cells ((wS rest 64).map (V.int .u32)) 176 false) := by rw [hx3.2 h.nx (by show h.nx < h'.nx + 1; omega), put_ne (by omega), push_ne (by omega)]; exact hgw
    have gb3 : h3.get b = some (.cells (hashC ws rest n all) 140 false) := by rw [hX3.2 b hb]; exact hg
    have hkl : (KL.map (V.int .u32)).length = 64 := rfl
    have hkc : (KL.map (V.int .u32)).all V.isCell = true := rfl
    simp +contextual (disch := first | (simp only [factsC, clsL, clsS, clsC, isPtrD]; done) | omega | (simp only [push_nx, put_nx, del_nx]; omega) | (refine Nat.le_antisymm ?_ ?_ <;> simp only [push_nx, put_nx, del_nx] <;> omega) | fail) only [wpy, factsC, wpb, cst, wpk, wpl, forall_const, implies_true, false_implies, Int.reduceLE, Int.reduceLT, Nat.reduceLeDiff, UInt8.reduceToNat, ↓reduceIte, Nat.reduceEqDiff, Nat.reduceAdd, reduceCtorEq, Int.reduceToNat, clsL, clsS, clsC, Tryd.f147, e0, e2, e20, hkl, hkc]
    generalize hW : wS rest 64 = W at *
    have hWl : W.length = 64 := by rw [← hW]; exact wS_len rest 64
    have hblk : blkF ws rest = aS ws (vS W ws 64) 8 := by rw [blkF, hW]
    refine ⟨.inr (.inl (by omega)), run_loop (fun k env2 h2 => ∃ t : Nat, k = 64 - t ∧ t ≤ 64 ∧ env2 0 = .ptr b 0 ∧ env2 2 = .ptr h.nx 0 ∧ env2 6 = .ptr h'.nx 0 ∧ env2 7 = .ptr h3.nx 0 ∧ env2 89 = .int .i64 t ∧ h3.nx < h2.nx ∧ Ext h h2 ∧ h2.get h.nx = some (.cells (W.map (V.int .u32)) 176 false) ∧ h2.get h'.nx = some (.cells ((vS W ws t).map (V.int .u32)) 136 false) ∧ h2.get h3.nx = some (.cells (KL.map (V.int .u32)) 176 false)) 64 ⟨0, ?_⟩ ?_⟩
    · simp +contextual (disch := first | (simp only [factsC, clsL, clsS, clsC, isPtrD]; done) | omega | (simp only [push_nx, put_nx, del_nx]; omega) | (refine Nat.le_antisymm ?_ ?_ <;> simp only [push_nx, put_nx, del_nx] <;> omega) | fail) only [wpy, factsC, wpb, cst, wpk, wpl, forall_const, implies_true, false_implies, Int.reduceLE, Int.reduceLT, Nat.reduceLeDiff, UInt8.reduceToNat, ↓reduceIte, Nat.reduceEqDiff, Nat.reduceAdd, reduceCtorEq, Int.reduceToNat, clsL, clsS, clsC, e0, e2, gw3, ga3]
      exact ⟨Nat.lt_succ_self _, (hX3.push _).put hX3.1 _, rfl, by rw [listPut_all]; rfl⟩
    rintro k env2 h2 ⟨t, rfl, ht, f0, f2, f6, f7, f89, hn2, hx2, gw2, gv2, gk2⟩
    have vl := vS_len (W := W) (ws := ws) hw t
    by_cases ht2 : t < 64
    · have i0 := intsV_get vl (show 0 < 8 by decide)
      have i1 := intsV_get vl (show 1 < 8 by decide)
      have i2 := intsV_get vl (show 2 < 8 by decide)
      have i3 := intsV_get vl (show 3 < 8 by decide)
      have i4 := intsV_get vl (show 4 < 8 by decide)
      have i5 := intsV_get vl (show 5 < 8 by decide)
      have i6 := intsV_get vl (show 6 < 8 by decide)
      have i7 := intsV_get vl (show 7 < 8 by decide)
      have ik := intsV_get (l := KL) rfl ht2
      have iw := intsV_get hWl ht2
      have d0 : (0 : Nat) < 8 := by decide
      have d1 : (1 : Nat) < 8 := by decide
      have d2 : (2 : Nat) < 8 := by decide
      have d3 : (3 : Nat) < 8 := by decide
      have d4 : (4 : Nat) < 8 := by decide
      have d5 : (5 : Nat) < 8 := by decide
      have d6 : (6 : Nat) < 8 := by decide
      have d7 : (7 : Nat) < 8 := by decide
      have hpa2 : ∀ l2 : List V, l2.length = 8 → listPut ((vS W ws t).map (V.int .u32)) 0 l2 = l2 := fun l2 h8 => listPut_all _ _ (by rw [List.length_map, vl, h8])
      simp +contextual (disch := first | (simp only [factsC, clsL, clsS, clsC, isPtrD]; done) | omega | (simp only [push_nx, put_nx, del_nx]; omega) | (refine Nat.le_antisymm ?_ ?_ <;> simp only [push_nx, put_nx, del_nx] <;> omega) | fail) only [wpy, factsC, wpb, cst, wpk, wpl, forall_const, implies_true, false_implies, Int.reduceLE, Int.reduceLT, Nat.reduceLeDiff, UInt8.reduceToNat, ↓reduceIte, Nat.reduceEqDiff, Nat.reduceAdd, reduceCtorEq, Int.reduceToNat, clsL, clsS, clsC, Tryd.f147, f0, f2, f6, f7, f89, ht2, gv2, gw2, gk2, i0, i1, i2, i3, i4, i5, i6, i7, ik, iw, d0, d1, d2, d3, d4, d5, d6, d7]
      refine draw_by [] (by kernel_rfl) ?_
      simp +contextual (disch := first | (simp only [factsC, clsL, clsS, clsC, isPtrD]; done) | omega | (simp only [push_nx, put_nx, del_nx]; omega) | (refine Nat.le_antisymm ?_ ?_ <;> simp only [push_nx, put_nx, del_nx] <;> omega) | fail) only [wpy, factsC, wpb, cst, wpk, wpl, forall_const, implies_true, false_implies, Int.reduceLE, Int.reduceLT, Nat.reduceLeDiff, UInt8.reduceToNat, ↓reduceIte, Nat.reduceEqDiff, Nat.reduceAdd, reduceCtorEq, Int.reduceToNat, clsL, clsS, clsC, Tryd.f147, f0, f2, f6, f7, f89, ht2, gv2, gw2, gk2, i0, i1, i2, i3, i4, i5, i6, i7, ik, iw, d0, d1, d2, d3, d4, d5, d6, d7]
      refine ⟨(by intro p hp; cases hp), ?_⟩
      refine draw_by [(1, 3), (1, 5), (1, 8), (3, 22), (5, 22), (8, 22), (3, 26), (5, 26), (8, 26)] (by kernel_rfl) ?_
      simp +contextual (disch := first | (simp only [factsC, clsL, clsS, clsC, isPtrD]; done) | omega | (simp only [push_nx, put_nx, del_nx]; omega) | (refine Nat.le_antisymm ?_ ?_ <;> simp only [push_nx, put_nx, del_nx] <;> omega) | fail) only [wpy, factsC, wpb, cst, wpk, wpl, forall_const, implies_true, false_implies, Int.reduceLE, Int.reduceLT, Nat.reduceLeDiff, UInt8.reduceToNat, ↓reduceIte, Nat.reduceEqDiff, Nat.reduceAdd, reduceCtorEq, Int.reduceToNat, clsL, clsS, clsC, Tryd.f147, f0, f2, f6, f7, f89, ht2, gv2, gw2, gk2, i0, i1, i2, i3, i4, i5, i6, i7, ik, iw, d0, d1, d2, d3, d4, d5, d6, d7]
      refine callF_exact (ror_spec hS _ _ _) ?_
      simp +contextual (disch := first | (simp only [factsC, clsL, clsS, clsC, isPtrD]; done) | omega | (simp only [push_nx, put_nx, del_nx]; omega) | (refine Nat.le_antisymm ?_ ?_ <;> simp only [push_nx, put_nx, del_nx] <;> omega) | fail) only [wpy, factsC, wpb, cst, wpk, wpl, forall_const, implies_true, false_implies, Int.reduceLE, Int.reduceLT, Nat.reduceLeDiff, UInt8.reduceToNat, ↓reduceIte, Nat.reduceEqDiff, Nat.reduceAdd, reduceCtorEq, Int.reduceToNat, clsL, clsS, clsC, Tryd.f147, f0, f2, f6, f7, f89, ht2, gv2, gw2, gk2, i0, i1, i2, i3, i4, i5, i6, i7, ik, iw, d0, d1, d2, d3, d4, d5, d6, d7]
      refine callF_exact (ror_spec hS _ _ _) ?_
      simp +contextual (disch := first | (simp only [factsC, clsL, clsS, clsC, isPtrD]; done) | omega | (simp only [push_nx, put_nx, del_nx]; omega) | (refine Nat.le_antisymm ?_ ?_ <;> simp only [push_nx, put_nx, del_nx] <;> omega) | fail) only [wpy, factsC, wpb, cst, wpk, wpl, forall_const, implies_true, false_implies, Int.reduceLE, Int.reduceLT, Nat.reduceLeDiff, UInt8.reduceToNat, ↓reduceIte, Nat.reduceEqDiff, Nat.reduceAdd, reduceCtorEq, Int.reduceToNat, clsL, clsS, clsC, Tryd.f147, f0, f2, f6, f7, f89, ht2, gv2, gw2, gk2, i0, i1, i2, i3, i4, i5, i6, i7, ik, iw, d0, d1, d2, d3, d4, d5, d6, d7]
      refine callF_exact (ror_spec hS _ _ _) ?_
      simp +contextual (disch := first | (simp only [factsC, clsL, clsS, clsC, isPtrD]; done) | omega | (simp only [push_nx, put_nx, del_nx]; omega) | (refine Nat.le_antisymm ?_ ?_ <;> simp only [push_nx, put_nx, del_nx] <;> omega) | fail) only [wpy, factsC, wpb, cst, wpk, wpl, forall_const, implies_true, false_implies, Int.reduceLE, Int.reduceLT, Nat.reduceLeDiff, UInt8.reduceToNat, ↓reduceIte, Nat.reduceEqDiff, Nat.reduceAdd, reduceCtorEq, Int.reduceToNat, clsL, clsS, clsC, Tryd.f147, f0, f2, f6, f7, f89, ht2, gv2, gw2, gk2, i0, i1, i2, i3, i4, i5, i6, i7, ik, iw, d0, d1, d2, d3, d4, d5, d6, d7]
      refine ⟨looks_pairs (n := h2.nx) (by
        repeat (refine List.forall_mem_cons.2 ⟨by first | exact look_nil | exact look_rd | exact look_cl, ?_⟩)
        intro f hf
        cases hf) _, ?_⟩
      refine callF_exact (ror_spec hS _ _ _) ?_
      simp +contextual (disch := first | (simp only [factsC, clsL, clsS, clsC, isPtrD]; done) | omega | (simp only [push_nx, put_nx, del_nx]; omega) | (refine Nat.le_antisymm ?_ ?_ <;> simp only [push_nx, put_nx, del_nx] <;> omega) | fail) only [wpy, factsC, wpb, cst, wpk, wpl, forall_const, implies_true, false_implies, Int.reduceLE, Int.reduceLT, Nat.reduceLeDiff, UInt8.reduceToNat, ↓reduceIte, Nat.reduceEqDiff, Nat.reduceAdd, reduceCtorEq, Int.reduceToNat, clsL, clsS, clsC, Tryd.f147, f0, f2, f6, f7, f89, ht2, gv2, gw2, gk2, i0, i1, i2, i3, i4, i5, i6, i7, ik, iw, d0, d1, d2, d3, d4, d5, d6, d7]
      refine callF_exact (ror_spec hS _ _ _) ?_
      simp +contextual (disch := first | (simp only [factsC, clsL, clsS, clsC, isPtrD]; done) | omega | (simp only [push_nx, put_nx, del_nx]; omega) | (refine Nat.le_antisymm ?_ ?_ <;> simp only [push_nx, put_nx, del_nx] <;> omega) | fail) only [wpy, factsC, wpb, cst, wpk, wpl, forall_const, implies_true, false_implies, Int.reduceLE, Int.reduceLT, Nat.reduceLeDiff, UInt8.reduceToNat, ↓reduceIte, Nat.reduceEqDiff, Nat.reduceAdd, reduceCtorEq, Int.reduceToNat, clsL, clsS, clsC, Tryd.f147, f0, f2, f6, f7, f89, ht2, gv2, gw2, gk2, i0, i1, i2, i3, i4, i5, i6, i7, ik, iw, d0, d1, d2, d3, d4, d5, d6, d7]
      refine callF_exact (ror_spec hS _ _ _) ?_
      simp +contextual (disch := first | (simp only [factsC, clsL, clsS, clsC, isPtrD]; done) | omega | (simp only [push_nx, put_nx, del_nx]; omega) | (refine Nat.le_antisymm ?_ ?_ <;> simp only [push_nx, put_nx, del_nx] <;> omega) | fail) only [wpy, factsC, wpb, cst, wpk, wpl, forall_const, implies_true, false_implies, Int.reduceLE, Int.reduceLT, Nat.reduceLeDiff, UInt8.reduceToNat, ↓reduceIte, Nat.reduceEqDiff, Nat.reduceAdd, reduceCtorEq, Int.reduceToNat, clsL, clsS, clsC, Tryd.f147, f0, f2, f6, f7, f89, ht2, gv2, gw2, gk2, i0, i1, i2, i3, i4, i5, i6, i7, ik, iw, d0, d1, d2, d3, d4, d5, d6, d7]
      exact ⟨⟨by rw [List.length_map, vl]; exact Nat.le_refl _, .inr (.inl hx.1)⟩, _, by omega, t + 1, rfl, by omega, rfl, hn2, hx2.put hx.1 _, by rw [hpa2 _ rfl]; rfl⟩
    · obtain rfl : t = 64 := by omega
      have htk : List.take 8 ((vS W ws 64).map (V.int .u32)) = (vS W ws 64).map (V.int .u32) := List.take_of_length_le (by rw [List.length_map, vl]; exact Nat.le_refl _)
      have hvm : ((vS W ws 64).map (V.int .u32)).length = 8 := by rw [List.length_map, vl]
      have h88 : (8 : Nat) ≤ 8 := Nat.le_refl _
      simp +contextual (disch := first | (simp only [factsC, clsL, clsS, clsC, isPtrD]; done) | omega | (simp only [push_nx, put_nx, del_nx]; omega) | (refine Nat.le_antisymm ?_ ?_ <;> simp only [push_nx, put_nx, del_nx] <;> omega) | fail) only [wpy, factsC, wpb, cst, wpk, wpl, forall_const, implies_true, false_implies, Int.reduceLE, Int.reduceLT, Nat.reduceLeDiff, UInt8.reduceToNat, ↓reduceIte, Nat.reduceEqDiff, Nat.reduceAdd, reduceCtorEq, Int.reduceToNat, clsL, clsS, clsC, Tryd.f147, f0, f2, f6, f7, f89, ht2, gv2, hvm, htk, h88]
      rw [hblk]
      generalize vS W ws 64 = v at *
      have gb2 : h2.get b = some (.cells (hashC ws rest n all) 140 false) := by rw [hx2.2 b hb]; exact hg
      refine run_loop (fun k env3 h4 => ∃ i : Nat, k = 8 - i ∧ i ≤ 8 ∧ env3 0 = .ptr b 0 ∧ env3 168 = .agg (v.map (V.int .u32)) ∧ env3 169 = .int .i64 i ∧ ButS b h h4 ∧ h4.get b = some (.cells (hashC (aS ws v i) rest n all) 140 false)) 8 ⟨0, ?_⟩ ?_
      · simp +contextual (disch := first | (simp only [factsC, clsL, clsS, clsC, isPtrD]; done) | omega | (simp only [push_nx, put_nx, del_nx]; omega) | (refine Nat.le_antisymm ?_ ?_ <;> simp only [push_nx, put_nx, del_nx] <;> omega) | fail) only [wpy, factsC, wpb, cst, wpk, wpl, forall_const, implies_true, false_implies, Int.reduceLE, Int.reduceLT, Nat.reduceLeDiff, UInt8.reduceToNat, ↓reduceIte, Nat.reduceEqDiff, Nat.reduceAdd, reduceCtorEq, Int.reduceToNat, clsL, clsS, clsC, f0]
        exact ⟨.of_ext hx2, gb2⟩
      rintro k env3 h4 ⟨i, rfl, hi, k0, k168, k169, hx4, gb4⟩
      have al := aS_len hw (v := v) i
      by_cases hi2 : i < 8
      · have hix : indexV Tryd.prog 136 (.agg (v.map (V.int .u32))) (.int .i64 (i : Nat)) = some (.int .u32 (v.getD i 0)) := index_array (n := 8) (e := 135) (d := .int .u32) (by kernel_rfl) (by kernel_rfl) rfl (by kernel_rfl) hi2 (intsV_get vl hi2)
        have hgw := hashC_w al hr (n := n) (all := all) hi2
        have hsw : ∀ x, listPut (hashC (aS ws v i) rest n all) (1 + i) [.int .u32 x] = hashC ((aS ws v i).set i x) rest n all := fun x => hashC_set_w al hr hi2 x
        have hcl := hashC_len al hr (n := n) (all := all)
        have hle : 1 + i + 1 ≤ 75 := by omega
        simp +contextual (disch := first | (simp only [factsC, clsL, clsS, clsC, isPtrD]; done) | omega | (simp only [push_nx, put_nx, del_nx]; omega) | (refine Nat.le_antisymm ?_ ?_ <;> simp only [push_nx, put_nx, del_nx] <;> omega) | fail) only [wpy, factsC, wpb, cst, wpk, wpl, forall_const, implies_true, false_implies, Int.reduceLE, Int.reduceLT, Nat.reduceLeDiff, UInt8.reduceToNat, ↓reduceIte, Nat.reduceEqDiff, Nat.reduceAdd, reduceCtorEq, Int.reduceToNat, clsL, clsS, clsC, Tryd.f147, k0, k168, k169, hi2, idxOk_agg, idxT_agg, hix]
        refine draw_by [] (by kernel_rfl) ?_
        simp +contextual (disch := first | (simp only [factsC, clsL, clsS, clsC, isPtrD]; done) | omega | (simp only [push_nx, put_nx, del_nx]; omega) | (refine Nat.le_antisymm ?_ ?_ <;> simp only [push_nx, put_nx, del_nx] <;> omega) | fail) only [wpy, factsC, wpb, cst, wpk, wpl, forall_const, implies_true, false_implies, Int.reduceLE, Int.reduceLT, Nat.reduceLeDiff, UInt8.reduceToNat, ↓reduceIte, Nat.reduceEqDiff, Nat.reduceAdd, reduceCtorEq, Int.reduceToNat, clsL, clsS, clsC, Tryd.f147, k0, k168, k169, hi2, gb4, hgw, hsw, hcl, hle]
        exact ⟨(by intro p hp; cases hp), _, by omega, i + 1, rfl, by omega, rfl, hx4.put _, rfl⟩
      · obtain rfl : i = 8 := by omega
        simp +contextual (disch := first | (simp only [factsC, clsL, clsS, clsC, isPtrD]; done) | omega | (simp only [push_nx, put_nx, del_nx]; omega) | (refine Nat.le_antisymm ?_ ?_ <;> simp only [push_nx, put_nx, del_nx] <;> omega) | fail) only [wpy, factsC, wpb, cst, wpk, wpl, forall_const, implies_true, false_implies, Int.reduceLE, Int.reduceLT, Nat.reduceLeDiff, UInt8.reduceToNat, ↓reduceIte, Nat.reduceEqDiff, Nat.reduceAdd, reduceCtorEq, Int.reduceToNat, clsL, clsS, clsC, Tryd.f147, k0, k168, k169, hi2]
        exact ⟨hx4, gb4⟩
end
end Go.Proofs.YtkibhdbmamfjcaaDoor

/-
  sha: bytes added, the hash of bytes.
-/
set_option linter.unusedSimpArgs false
set_option linter.unusedVariables false
set_option linter.defProp false
set_option maxRecDepth 10000
namespace Go.Proofs.YtkibhdbmamfjcaaDoor
open Go.Proofs Go.Lx Go.Wx Go.IntWalk
noncomputable section

/-- a hash on its way -/
structure SH where
  ws : List Int
  rest : List Nat
  n : Nat
def add1 (s : SH) (c : Nat) : SH := if s.n + 1 < 64 then ⟨s.ws, s.rest.set s.n c, s.n + 1⟩ else ⟨blkF s.ws (s.rest.set s.n c), s.rest.set s.n c, 0⟩
def addF (s : SH) (l : List Nat) : SH := l.foldl add1 s
def SH.ok (s : SH) : Prop := s.ws.length = 8 ∧ s.rest.length = 64 ∧ Bytes s.rest ∧ s.n < 64
def SH.cells (s : SH) (all : Int) : List V := hashC s.ws s.rest s.n all
theorem bytes_set {l : List Nat} (h : Bytes l) (i c : Nat) (hc : c < 256) : Bytes (l.set i c) := by
  intro x hx
  rcases List.mem_or_eq_of_mem_set hx with hx | rfl
  · exact h x hx
  · exact hc
theorem add1_ok {s : SH} (h : s.ok) {c : Nat} (hc : c < 256) : (add1 s c).ok := by
  obtain ⟨h1, h2, h3, h4⟩ := h
  have hb := bytes_set h3 s.n c hc
  unfold add1
  split
  · exact ⟨h1, by rw [List.length_set]; exact h2, hb, by assumption⟩
  · exact ⟨blkF_len h1, by show (s.rest.set s.n c).length = 64; rw [List.length_set]; exact h2, hb, by show 0 < 64; decide⟩
theorem addF_ok : ∀ {l : List Nat} {s : SH}, s.ok → Bytes l → (addF s l).ok
  | [], s, h, hb => h
  | c :: l, s, h, hb => addF_ok (l := l) (s := add1 s c) (add1_ok h (hb c List.mem_cons_self)) fun x hx => hb x (List.mem_cons_of_mem _ hx)
theorem addF_step {s : SH} {l : List Nat} {i : Nat} (hi : i < l.length) : addF s (l.take (i + 1)) = add1 (addF s (l.take i)) l[i] := by
  rw [addF, List.take_succ_eq_append_getElem hi, List.foldl_append]
  rfl
theorem eq_self' {α : Type} (a : α) : (a = a) = True := eq_self a

variable {S : Set0} (hS : StdH S)
include hS
set_option maxHeartbeats 4000000 in
theorem add_spec (r b o m : Nat) (l : List Nat) (s : SH) (all : Int) (c : List V) (e : TypeId) (fl : Bool) (h : H) (hok : s.ok) (hl : Bytes l) (hll : l.length < 2 ^ 40) (hr : r < h.nx) (hb : b < h.nx) (hbr : b ≠ r) (hg : h.get r = some (.cells (s.cells all) 140 false)) (hgb : h.get b = some (.cells c e fl)) (hc : ∀ i (hi : i < l.length), c[o + i]? = some (.int .u8 (l[i] : Nat))) : callW S.cfg (fun k => k = r) 131 [.ptr r 0, .slice b o l.length m] h fun v h' => v = .tuple [] ∧ ButS r h h' ∧ h'.get r = some (.cells ((addF s l).cells all) 140 false) := by
  refine into Tryd.f131 _ Tryd.func131 (hS.ownH _ (by decide)) rfl rfl (by kernel_rfl) (by kernel_rfl) ?_
  simp +contextual (disch := first | (simp only [factsC, clsL, clsS, clsC, isPtrD]; done) | omega | (simp only [push_nx, put_nx, del_nx]; omega) | (refine Nat.le_antisymm ?_ ?_ <;> simp only [push_nx, put_nx, del_nx] <;> omega) | fail) only [wpy, factsC, wpb, cst, wpk, wpl, forall_const, implies_true, false_implies, Int.reduceLE, Int.reduceLT, Nat.reduceLeDiff, UInt8.reduceToNat, ↓reduceIte, Nat.reduceEqDiff, Nat.reduceAdd, reduceCtorEq, Int.reduceToNat, clsL, clsS, clsC, Tryd.f131]
  refine run_loop (fun k env h' => ∃ i : Nat, k = l.length - i ∧ i ≤ l.length ∧ env 0 = .ptr r 0 ∧ env 6 = .slice b o l.length m ∧ env 7 = .int .i64 l.length ∧ env 8 = .int .i64 i ∧ ButS r h h' ∧ h'.get r = some (.cells ((addF s (l.take i)).cells all) 140 false)) l.length ⟨0, ?_⟩ ?_
  · simp +contextual (disch := first | (simp only [factsC, clsL, clsS, clsC, isPtrD]; done) | omega | (simp only [push_nx, put_nx, del_nx]; omega) | (refine Nat.le_antisymm ?_ ?_ <;> simp only [push_nx, put_nx, del_nx] <;> omega) | fail) only [wpy, factsC, wpb, cst, wpk, wpl, forall_const, implies_true, false_implies, Int.reduceLE, Int.reduceLT, Nat.reduceLeDiff, UInt8.reduceToNat, ↓reduceIte, Nat.reduceEqDiff, Nat.reduceAdd, reduceCtorEq, Int.reduceToNat, clsL, clsS, clsC]
    exact ⟨by simp, .refl _ _, hg⟩
  rintro k env h' ⟨i, rfl, hi, e0, e6, e7, e8, hx, hgr⟩
  have hgb' : h'.get b = some (.cells c e fl) := by rw [hx.2 b hb hbr]; exact hgb
  by_cases hi2 : i < l.length
  · have hci := hc i hi2
    have hst := addF_step (s := s) hi2
    have hok' : (addF s (l.take i)).ok := addF_ok hok fun x hx => hl x (List.mem_of_mem_take hx)
    have hl256 : l[i] < 256 := hl _ (List.getElem_mem hi2)
    generalize addF s (l.take i) = s1 at *
    generalize l[i] = x at *
    obtain ⟨h1, h2, h3, h4⟩ := hok'
    rw [SH.cells] at hgr
    have hn64 : (s1.n : Int).toNat = s1.n := rfl
    have h2' : (s1.rest.set s1.n x).length = 64 := by rw [List.length_set]; exact h2
    have gn : ∀ n' : Int, (hashC s1.ws s1.rest n' all)[73]? = some (.int .i64 n') := fun n' => hashC_n h1 h2
    have gn' : ∀ n' : Int, (hashC s1.ws (s1.rest.set s1.n x) n' all)[73]? = some (.int .i64 n') := fun n' => hashC_n h1 h2'
    have sr : listPut (hashC s1.ws s1.rest s1.n all) (9 + s1.n) [.int .u8 (x : Nat)] = hashC s1.ws (s1.rest.set s1.n x) s1.n all := hashC_set_r h1 h2 h4 x
    have sn' : ∀ n0 n' : Int, listPut (hashC s1.ws (s1.rest.set s1.n x) n0 all) 73 [.int .i64 n'] = hashC s1.ws (s1.rest.set s1.n x) n' all := fun n0 n' => hashC_set_n h1 h2' n'
    have l1 : ∀ n0 : Int, (hashC s1.ws s1.rest n0 all).length = 75 := fun n0 => hashC_len h1 h2
    have l1' : ∀ n0 : Int, (hashC s1.ws (s1.rest.set s1.n x) n0 all).length = 75 := fun n0 => hashC_len h1 h2'
    have k0 : ∀ n0 : Int, (hashC s1.ws (s1.rest.set s1.n x) n0 all)[0]? = some (.int .i64 2) := fun n0 => rfl
    have q9 : 9 + s1.n + 1 ≤ 75 := by omega
    simp +contextual (disch := first | (simp only [factsC, clsL, clsS, clsC, isPtrD]; done) | omega | (simp only [push_nx, put_nx, del_nx]; omega) | (refine Nat.le_antisymm ?_ ?_ <;> simp only [push_nx, put_nx, del_nx] <;> omega) | fail) only [wpy, factsC, wpb, cst, wpk, wpl, forall_const, implies_true, false_implies, Int.reduceLE, Int.reduceLT, Nat.reduceLeDiff, UInt8.reduceToNat, ↓reduceIte, Nat.reduceEqDiff, Nat.reduceAdd, reduceCtorEq, Int.reduceToNat, clsL, clsS, clsC, Tryd.f131, e0, e6, e7, e8, hi2, hgb', hci]
    refine draw_by [] (by kernel_rfl) ?_
    simp +contextual (disch := first | (simp only [factsC, clsL, clsS, clsC, isPtrD]; done) | omega | (simp only [push_nx, put_nx, del_nx]; omega) | (refine Nat.le_antisymm ?_ ?_ <;> simp only [push_nx, put_nx, del_nx] <;> omega) | fail) only [wpy, factsC, wpb, cst, wpk, wpl, forall_const, implies_true, false_implies, Int.reduceLE, Int.reduceLT, Nat.reduceLeDiff, UInt8.reduceToNat, ↓reduceIte, Nat.reduceEqDiff, Nat.reduceAdd, reduceCtorEq, Int.reduceToNat, clsL, clsS, clsC, Tryd.f131, e0, e6, e7, e8, hi2, hgr, gn, gn', sr, sn', l1, l1', h4, q9, eq_self']
    refine ⟨(by intro p hp; cases hp), ?_⟩
    refine ⟨fun hlt => ⟨_, by omega, i + 1, rfl, by omega, rfl, (hx.put _).put _, by rw [hst, add1, if_pos hlt]; rfl⟩, fun hge => ?_⟩
    simp +contextual (disch := first | (simp only [factsC, clsL, clsS, clsC, isPtrD]; done) | omega | (simp only [push_nx, put_nx, del_nx]; omega) | (refine Nat.le_antisymm ?_ ?_ <;> simp only [push_nx, put_nx, del_nx] <;> omega) | fail) only [wpy, factsC, wpb, cst, wpk, wpl, forall_const, implies_true, false_implies, Int.reduceLE, Int.reduceLT, Nat.reduceLeDiff, UInt8.reduceToNat, ↓reduceIte, Nat.reduceEqDiff, Nat.reduceAdd, reduceCtorEq, Int.reduceToNat, clsL, clsS, clsC, Tryd.f131, k0, ne21, ne21n]
    refine callF_of (block2_spec hS r s1.ws (s1.rest.set s1.n x) 0 all _ h1 h2' (bytes_set h3 _ _ hl256) (Nat.lt_of_lt_of_le hr hx.1) (put_eq rfl)) (fun k q => by subst q; rw [fresh_def]; exact .inr rfl) ?_
    rintro v h5 ⟨rfl, hx5, hg5⟩
    simp +contextual (disch := first | (simp only [factsC, clsL, clsS, clsC, isPtrD]; done) | omega | (simp only [push_nx, put_nx, del_nx]; omega) | (refine Nat.le_antisymm ?_ ?_ <;> simp only [push_nx, put_nx, del_nx] <;> omega) | fail) only [wpy, factsC, wpb, cst, wpk, wpl, forall_const, implies_true, false_implies, Int.reduceLE, Int.reduceLT, Nat.reduceLeDiff, UInt8.reduceToNat, ↓reduceIte, Nat.reduceEqDiff, Nat.reduceAdd, reduceCtorEq, Int.reduceToNat, clsL, clsS, clsC, Tryd.f131, e0, e6, e7, e8]
    exact ⟨_, by omega, i + 1, rfl, by omega, rfl, (((hx.put _).put _).put _).trans hx5, by rw [hst, add1, if_neg hge]; exact hg5⟩
  · have hle : i = l.length := by omega
    subst hle
    rw [List.take_length] at hgr
    simp +contextual (disch := first | (simp only [factsC, clsL, clsS, clsC, isPtrD]; done) | omega | (simp only [push_nx, put_nx, del_nx]; omega) | (refine Nat.le_antisymm ?_ ?_ <;> simp only [push_nx, put_nx, del_nx] <;> omega) | fail) only [wpy, factsC, wpb, cst, wpk, wpl, forall_const, implies_true, false_implies, Int.reduceLE, Int.reduceLT, Nat.reduceLeDiff, UInt8.reduceToNat, ↓reduceIte, Nat.reduceEqDiff, Nat.reduceAdd, reduceCtorEq, Int.reduceToNat, clsL, clsS, clsC, Tryd.f131, e0, e6, e7, e8, hi2]
    first | exact ⟨hx, hgr⟩ | trace_state
end
end Go.Proofs.YtkibhdbmamfjcaaDoor

/-
  sha: the hash of bytes.
-/
set_option linter.unusedSimpArgs false
set_option linter.unusedVariables false
set_option linter.defProp false
set_option maxRecDepth 10000
namespace Go.Proofs.YtkibhdbmamfjcaaDoor
open Go.Proofs Go.Lx Go.Wx Go.IntWalk
noncomputable section

def padZ : Nat → SH → SH
  | 0, s => s
  | f + 1, s => if s.n = 56 then s else padZ f (add1 s 0)
def padM (s : SH) : Nat := if s.n ≤ 56 then 56 - s.n else 120 - s.n
theorem padM_lt {s : SH} (h : s.n < 64) (h5 : ¬ s.n = 56) : padM (add1 s 0) < padM s := by
  unfold padM add1
  split
  · show (if s.n + 1 ≤ 56 then 56 - (s.n + 1) else 120 - (s.n + 1)) < _
    split <;> split <;> omega
  · show (if 0 ≤ 56 then 56 - 0 else 120 - 0) < _
    rw [if_pos (by decide)]
    split <;> omega
/-- a byte of a length -/
def lenB (n i : Nat) : Nat := (IntKind.u8.wrap (iShr .u64 n (8 * i : Nat))).toNat
def lenF (s : SH) (n : Nat) : Nat → SH
  | 0 => s
  | j + 1 => add1 (lenF s n j) (lenB n (7 - j))
def outB (x : Int) : List Nat := [(IntKind.u8.wrap (iShr .u32 x 24)).toNat, (IntKind.u8.wrap (iShr .u32 x 16)).toNat, (IntKind.u8.wrap (iShr .u32 x 8)).toNat, (IntKind.u8.wrap x).toNat]
def outF (ws : List Int) : List Nat := ws.flatMap outB
/-- what is left behind all bytes -/
def finF (s : SH) (all : Nat) : SH := lenF (padZ 65 (add1 s 128)) (all * 8) 8
def newS : SH := ⟨startL, List.replicate 64 0, 0⟩
/-- the hash of bytes -/
def shaF (l : List Nat) : List Nat := outF (finF (addF newS l) l.length).ws
theorem wrap_u8 (z : Int) : 0 ≤ IntKind.u8.wrap z ∧ IntKind.u8.wrap z < 256 := by
  unfold IntKind.wrap
  simp [IntKind.signed, IntKind.bits]
  omega
theorem u8_nat (z : Int) : ((IntKind.u8.wrap z).toNat : Int) = IntKind.u8.wrap z := Int.toNat_of_nonneg (wrap_u8 z).1
theorem lenB_lt (n i : Nat) : lenB n i < 256 := by
  unfold lenB
  have := wrap_u8 (iShr .u64 n (8 * i : Nat))
  omega
theorem lenF_ok {s : SH} (h : s.ok) (n : Nat) : ∀ j, (lenF s n j).ok
  | 0 => h
  | j + 1 => add1_ok (lenF_ok h n j) (lenB_lt _ _)
theorem newS_ok : newS.ok := ⟨rfl, List.length_replicate, fun x hx => by rw [(List.mem_replicate.1 hx).2]; decide, by decide⟩
theorem padZ_ok : ∀ (f : Nat) {s : SH}, s.ok → (padZ f s).ok
  | 0, s, h => h
  | f + 1, s, h => by
    rw [padZ]
    split
    · exact h
    · exact padZ_ok f (add1_ok h (by decide))
theorem outF_len : ∀ (ws : List Int), (outF ws).length = ws.length * 4
  | [] => rfl
  | x :: l => by
    rw [outF, List.flatMap_cons, List.length_append, List.length_cons, show (l.flatMap outB).length = l.length * 4 from outF_len l]
    show 4 + _ = _
    omega
theorem outF_bytes (ws : List Int) : Bytes (outF ws) := by
  intro x hx
  obtain ⟨y, _, hy⟩ := List.mem_flatMap.1 hx
  have h1 := wrap_u8 (iShr .u32 y 24)
  have h2 := wrap_u8 (iShr .u32 y 16)
  have h3 := wrap_u8 (iShr .u32 y 8)
  have h4 := wrap_u8 y
  simp only [outB, List.mem_cons, List.not_mem_nil, or_false] at hy
  rcases hy with rfl | rfl | rfl | rfl <;> omega
theorem finF_ok {s : SH} (h : s.ok) (all : Nat) : (finF s all).ok := lenF_ok (padZ_ok _ (add1_ok h (by decide))) _ _
theorem shaF_len {l : List Nat} (hl : Bytes l) : (shaF l).length = 32 := by
  rw [shaF, outF_len, (finF_ok (addF_ok newS_ok hl) l.length).1]
theorem bytesV_at {l : List Nat} {i : Nat} (hi : i < l.length) : (bytesV l)[0 + i]? = some (.int .u8 (l[i] : Nat)) := by
  rw [Nat.zero_add, bytesV_get, List.getElem?_eq_getElem hi]
  rfl

variable {S : Set0} (hS : StdH S)
include hS
theorem write_spec (r b m : Nat) (l : List Nat) (s : SH) (e : TypeId) (fl : Bool) (h : H) (hok : s.ok) (hl : Bytes l) (hll : l.length < 2 ^ 40) (hr : r < h.nx) (hb : b < h.nx) (hbr : b ≠ r) (hg : h.get r = some (.cells (s.cells 0) 140 false)) (hgb : h.get b = some (.cells (bytesV l) e fl)) : callW S.cfg (fun k => k = r) 92 [.ptr r 0, .slice b 0 l.length m] h fun v h' => v = .int .i64 0 ∧ ButS r h h' ∧ h'.get r = some (.cells ((addF s l).cells l.length) 140 false) := by
  refine into Tryd.f92 _ Tryd.func92 (hS.ownH _ (by decide)) rfl rfl (by kernel_rfl) (by kernel_rfl) ?_
  simp +contextual (disch := first | (simp only [factsC, clsL, clsS, clsC, isPtrD]; done) | omega | (simp only [push_nx, put_nx, del_nx]; omega) | (refine Nat.le_antisymm ?_ ?_ <;> simp only [push_nx, put_nx, del_nx] <;> omega) | fail) only [wpy, factsC, wpb, cst, wpk, wpl, forall_const, implies_true, false_implies, Int.reduceLE, Int.reduceLT, Nat.reduceLeDiff, UInt8.reduceToNat, ↓reduceIte, Nat.reduceEqDiff, Nat.reduceAdd, reduceCtorEq, Int.reduceToNat, clsL, clsS, clsC, Tryd.f92]
  refine callF_exact (none_spec hS r 2 _ _ _ (by decide) hg) ?_
  simp +contextual (disch := first | (simp only [factsC, clsL, clsS, clsC, isPtrD]; done) | omega | (simp only [push_nx, put_nx, del_nx]; omega) | (refine Nat.le_antisymm ?_ ?_ <;> simp only [push_nx, put_nx, del_nx] <;> omega) | fail) only [wpy, factsC, wpb, cst, wpk, wpl, forall_const, implies_true, false_implies, Int.reduceLE, Int.reduceLT, Nat.reduceLeDiff, UInt8.reduceToNat, ↓reduceIte, Nat.reduceEqDiff, Nat.reduceAdd, reduceCtorEq, Int.reduceToNat, clsL, clsS, clsC, Tryd.f92]
  refine callF_of (add_spec hS r b 0 m l s 0 _ _ _ _ hok hl hll hr hb hbr hg hgb fun i hi => bytesV_at hi) (fun k q => by subst q; rw [fresh_def]; exact .inr rfl) ?_
  rintro v h1 ⟨rfl, hx1, hg1⟩
  have hok1 := addF_ok hok hl
  generalize addF s l = s1 at *
  rw [SH.cells] at hg1
  have l1 : ∀ a : Int, (hashC s1.ws s1.rest s1.n a).length = 75 := fun a => hashC_len hok1.1 hok1.2.1
  have ga : ∀ a : Int, (hashC s1.ws s1.rest s1.n a)[74]? = some (.int .i64 a) := fun a => hashC_all hok1.1 hok1.2.1
  have sa : ∀ a a' : Int, listPut (hashC s1.ws s1.rest s1.n a) 74 [.int .i64 a'] = hashC s1.ws s1.rest s1.n a' := fun a a' => hashC_set_all hok1.1 hok1.2.1 a'
  have h75 : 74 + 1 ≤ 75 := Nat.le_refl _
  have w0 : IntKind.i64.wrap (0 + (l.length : Int)) = (l.length : Int) := by
    unfold IntKind.wrap
    simp [IntKind.signed, IntKind.bits]
    omega
  simp +contextual (disch := first | (simp only [factsC, clsL, clsS, clsC, isPtrD]; done) | omega | (simp only [push_nx, put_nx, del_nx]; omega) | (refine Nat.le_antisymm ?_ ?_ <;> simp only [push_nx, put_nx, del_nx] <;> omega) | fail) only [wpy, factsC, wpb, cst, wpk, wpl, forall_const, implies_true, false_implies, Int.reduceLE, Int.reduceLT, Nat.reduceLeDiff, UInt8.reduceToNat, ↓reduceIte, Nat.reduceEqDiff, Nat.reduceAdd, reduceCtorEq, Int.reduceToNat, clsL, clsS, clsC, Tryd.f92, hg1, l1, ga, sa, h75, w0, eq_self']
  first | exact ⟨hx1.put _, rfl⟩ | trace_state
/-- one byte more -/
theorem add_one (r x : Nat) (s : SH) (all : Int) (h : H) (b : Nat) (hb : b = h.nx) (c : List V) (hcx : c = [.int .u8 (x : Nat)]) (hok : s.ok) (hx : x < 256) (hr : r < h.nx) (hg : h.get r = some (.cells (s.cells all) 140 false)) : callW S.cfg (fun k => k = r) 131 [.ptr r 0, .slice b 0 1 1] (h.push (.cells c 5 false)) fun v h' => v = .tuple [] ∧ ButS r h h' ∧ h'.get r = some (.cells ((add1 s x).cells all) 140 false) := by
  subst hb hcx
  refine callW_mono (add_spec hS r h.nx 0 1 [x] s all [.int .u8 (x : Nat)] 5 false _ hok (fun y hy => by rw [List.mem_singleton] at hy; subst hy; exact hx) (by show 1 < 2 ^ 40; decide) (Nat.lt_succ_of_lt hr) (Nat.lt_succ_self _) (by omega) (by rw [push_ne (by omega)]; exact hg) (push_eq rfl) ?_) (fun _ q => q) ?_
  · intro i hi
    have : i = 0 := by simp at hi; omega
    subst this
    rfl
  · rintro v h' ⟨rfl, hx, hg'⟩
    exact ⟨rfl, (ButS.of_ext ((Ext.refl h).push _)).trans hx, hg'⟩
set_option maxHeartbeats 4000000 in
theorem Sum_spec (r : Nat) (s : SH) (all : Nat) (h : H) (hok : s.ok) (hall : all < 2 ^ 40) (hr : r < h.nx) (hg : h.get r = some (.cells (s.cells all) 140 false)) : Pure S.cfg 93 [.ptr r 0] h fun v h' => Wx.Acc h.nx h' v (bytesV (outF (finF s all).ws)) 5 1 := by
  refine into Tryd.f93 _ Tryd.func93 (hS.ownH _ (by decide)) rfl rfl (by kernel_rfl) (by kernel_rfl) ?_
  simp +contextual (disch := first | (simp only [factsC, clsL, clsS, clsC, isPtrD]; done) | omega | (simp only [push_nx, put_nx, del_nx]; omega) | (refine Nat.le_antisymm ?_ ?_ <;> simp only [push_nx, put_nx, del_nx] <;> omega) | fail) only [wpy, factsC, wpb, cst, wpk, wpl, forall_const, implies_true, false_implies, Int.reduceLE, Int.reduceLT, Nat.reduceLeDiff, UInt8.reduceToNat, ↓reduceIte, Nat.reduceEqDiff, Nat.reduceAdd, reduceCtorEq, Int.reduceToNat, clsL, clsS, clsC, Tryd.f93]
  refine callF_exact (none_spec hS r 2 _ _ _ (by decide) hg) ?_
  have hcl : (s.cells all).length = 75 := hashC_len hok.1 hok.2.1
  have htk : List.take 75 (s.cells all) = s.cells all := List.take_of_length_le (by omega)
  have hcc : (s.cells all).all V.isCell = true := by
    unfold SH.cells hashC bytesV
    simp [V.isCell]
  have hpa : ∀ l : List V, l.length = 75 → listPut l 0 (s.cells all) = s.cells all := fun l hl => listPut_all _ _ (by omega)
  have h75 : (75 : Nat) ≤ 75 := Nat.le_refl _
  have hn : ¬ r = h.nx := by omega
  simp +contextual (disch := first | (simp only [factsC, clsL, clsS, clsC, isPtrD]; done) | omega | (simp only [push_nx, put_nx, del_nx]; omega) | (refine Nat.le_antisymm ?_ ?_ <;> simp only [push_nx, put_nx, del_nx] <;> omega) | fail) only [wpy, factsC, wpb, cst, wpk, wpl, forall_const, implies_true, false_implies, Int.reduceLE, Int.reduceLT, Nat.reduceLeDiff, UInt8.reduceToNat, ↓reduceIte, Nat.reduceEqDiff, Nat.reduceAdd, reduceCtorEq, Int.reduceToNat, clsL, clsS, clsC, Tryd.f93, hg, hcl, htk, hcc, h75]
  refine callF_of (add_one hS h.nx 128 s all _ _ rfl _ rfl hok (by decide) (Nat.lt_succ_self _) (by rw [put_eq rfl, listPut_all]; rw [hcl]; rfl)) (fun k q => by subst q; rw [fresh_def]; exact .inl (Nat.le_refl _)) ?_
  rintro v h1 ⟨rfl, hx1, hg1⟩
  have hX1 : Ext h h1 := ⟨by have := hx1.1; simp only [put_nx, push_nx] at this; omega, fun k hk => by rw [hx1.2 k (by simp only [put_nx, push_nx]; omega) (by omega), put_ne (by omega), push_ne (by omega)]⟩
  have hn1 : h.nx < h1.nx := by have := hx1.1; simp only [put_nx, push_nx] at this; omega
  have hok1 : (add1 s 128).ok := add1_ok hok (by decide)
  simp +contextual (disch := first | (simp only [factsC, clsL, clsS, clsC, isPtrD]; done) | omega | (simp only [push_nx, put_nx, del_nx]; omega) | (refine Nat.le_antisymm ?_ ?_ <;> simp only [push_nx, put_nx, del_nx] <;> omega) | fail) only [wpy, factsC, wpb, cst, wpk, wpl, forall_const, implies_true, false_implies, Int.reduceLE, Int.reduceLT, Nat.reduceLeDiff, UInt8.reduceToNat, ↓reduceIte, Nat.reduceEqDiff, Nat.reduceAdd, reduceCtorEq, Int.reduceToNat, clsL, clsS, clsC, Tryd.f93]
  refine run_loop (fun k env h' => ∃ (s2 : SH) (f : Nat), k = padM s2 ∧ padM s2 < f ∧ padZ 65 (add1 s 128) = padZ f s2 ∧ s2.ok ∧ env 0 = .ptr r 0 ∧ env 3 = .ptr h.nx 0 ∧ Ext h h' ∧ h.nx < h'.nx ∧ h'.get h.nx = some (.cells (s2.cells all) 140 false)) (padM (add1 s 128)) ⟨add1 s 128, 65, ?_⟩ ?_
  · have hpm : padM (add1 s 128) < 65 := by
      have := hok1.2.2.2
      unfold padM
      split <;> omega
    simp +contextual (disch := first | (simp only [factsC, clsL, clsS, clsC, isPtrD]; done) | omega | (simp only [push_nx, put_nx, del_nx]; omega) | (refine Nat.le_antisymm ?_ ?_ <;> simp only [push_nx, put_nx, del_nx] <;> omega) | fail) only [wpy, factsC, wpb, cst, wpk, wpl, forall_const, implies_true, false_implies, Int.reduceLE, Int.reduceLT, Nat.reduceLeDiff, UInt8.reduceToNat, ↓reduceIte, Nat.reduceEqDiff, Nat.reduceAdd, reduceCtorEq, Int.reduceToNat, clsL, clsS, clsC]
    exact ⟨hpm, hok1, hX1, hn1, hg1⟩
  rintro k env h' ⟨s2, f, rfl, hf, hp, hok2, e0, e3, hx, hn', hg2⟩
  obtain ⟨f, rfl⟩ : ∃ g, f = g + 1 := ⟨f - 1, by omega⟩
  rw [show padZ (f + 1) s2 = if s2.n = 56 then s2 else padZ f (add1 s2 0) from rfl] at hp
  have gn : (s2.cells all)[73]? = some (.int .i64 s2.n) := hashC_n hok2.1 hok2.2.1
  by_cases h56 : s2.n = 56
  · rw [if_pos h56] at hp
    have h56' := eq_true h56
    have hgr : h'.get r = some (.cells (s.cells all) 140 false) := by rw [hx.2 r hr]; exact hg
    have gr74 : (s.cells all)[74]? = some (.int .i64 all) := hashC_all hok.1 hok.2.1
    have wall : IntKind.u64.wrap (all : Int) = ((all : Nat) : Int) := by
      unfold IntKind.wrap
      simp [IntKind.signed, IntKind.bits]
      omega
    have w8 : IntKind.u64.wrap ((all : Int) * 8) = ((all * 8 : Nat) : Int) := by
      unfold IntKind.wrap
      simp [IntKind.signed, IntKind.bits]
      omega
    simp +contextual (disch := first | (simp only [factsC, clsL, clsS, clsC, isPtrD]; done) | omega | (simp only [push_nx, put_nx, del_nx]; omega) | (refine Nat.le_antisymm ?_ ?_ <;> simp only [push_nx, put_nx, del_nx] <;> omega) | fail) only [wpy, factsC, wpb, cst, wpk, wpl, forall_const, implies_true, false_implies, Int.reduceLE, Int.reduceLT, Nat.reduceLeDiff, UInt8.reduceToNat, ↓reduceIte, Nat.reduceEqDiff, Nat.reduceAdd, reduceCtorEq, Int.reduceToNat, clsL, clsS, clsC, Tryd.f93, e0, e3, hg2, gn, h56', hgr, gr74, wall, w8]
    obtain ⟨hn2, hn3⟩ : h.nx < h'.nx ∧ True := ⟨hn', trivial⟩
    refine run_loop (fun k env2 h2 => ∃ j : Nat, k = j ∧ j ≤ 8 ∧ env2 0 = .ptr r 0 ∧ env2 3 = .ptr h.nx 0 ∧ env2 4 = .int .u64 (all * 8 : Nat) ∧ env2 5 = .int .i64 ((j : Int) - 1) ∧ Ext h h2 ∧ h.nx < h2.nx ∧ h2.get h.nx = some (.cells ((lenF s2 (all * 8) (8 - j)).cells all) 140 false)) 8 ⟨8, ?_⟩ ?_
    · simp +contextual (disch := first | (simp only [factsC, clsL, clsS, clsC, isPtrD]; done) | omega | (simp only [push_nx, put_nx, del_nx]; omega) | (refine Nat.le_antisymm ?_ ?_ <;> simp only [push_nx, put_nx, del_nx] <;> omega) | fail) only [wpy, factsC, wpb, cst, wpk, wpl, forall_const, implies_true, false_implies, Int.reduceLE, Int.reduceLT, Nat.reduceLeDiff, UInt8.reduceToNat, ↓reduceIte, Nat.reduceEqDiff, Nat.reduceAdd, reduceCtorEq, Int.reduceToNat, clsL, clsS, clsC, e0, e3]
      exact ⟨rfl, hx, hn', hg2⟩
    rintro k env2 h2 ⟨j, hkj, hj, f0, f3, f4, f5, hx2, hn2, hgl⟩
    by_cases hj0 : j = 0
    · subst hj0
      have hneg : ¬ (0 : Int) ≤ ((0 : Nat) : Int) - 1 := by decide
      have hgr2 : h2.get r = some (.cells (s.cells all) 140 false) := by rw [hx2.2 r hr]; exact hg
      have hok3 := lenF_ok hok2 (all * 8) 8
      have hfin : finF s all = lenF s2 (all * 8) 8 := by rw [finF, hp]
      rw [hfin]
      simp +contextual (disch := first | (simp only [factsC, clsL, clsS, clsC, isPtrD]; done) | omega | (simp only [push_nx, put_nx, del_nx]; omega) | (refine Nat.le_antisymm ?_ ?_ <;> simp only [push_nx, put_nx, del_nx] <;> omega) | fail) only [wpy, factsC, wpb, cst, wpk, wpl, forall_const, implies_true, false_implies, Int.reduceLE, Int.reduceLT, Nat.reduceLeDiff, UInt8.reduceToNat, ↓reduceIte, Nat.reduceEqDiff, Nat.reduceAdd, reduceCtorEq, Int.reduceToNat, clsL, clsS, clsC, Tryd.f93, f0, f3, f4, f5, hneg]
      refine slice_array (e := 135) (sz := 1) (n := 8) (b := h.nx) (o := 1) (l := 0) (hh := 8) (m := 8) (by kernel_rfl) D1.sz135 (by simp +contextual (disch := first | (simp only [factsC, clsL, clsS, clsC, isPtrD]; done) | omega | (simp only [push_nx, put_nx, del_nx]; omega) | (refine Nat.le_antisymm ?_ ?_ <;> simp only [push_nx, put_nx, del_nx] <;> omega) | fail) only [wpy, factsC, wpb, cst, wpk, wpl, forall_const, implies_true, false_implies, Int.reduceLE, Int.reduceLT, Nat.reduceLeDiff, UInt8.reduceToNat, ↓reduceIte, Nat.reduceEqDiff, Nat.reduceAdd, reduceCtorEq, Int.reduceToNat, clsL, clsS, clsC]) rfl ?_
      have k0 : (s.cells all)[0]? = some (.int .i64 2) := rfl
      simp +contextual (disch := first | (simp only [factsC, clsL, clsS, clsC, isPtrD]; done) | omega | (simp only [push_nx, put_nx, del_nx]; omega) | (refine Nat.le_antisymm ?_ ?_ <;> simp only [push_nx, put_nx, del_nx] <;> omega) | fail) only [wpy, factsC, wpb, cst, wpk, wpl, forall_const, implies_true, false_implies, Int.reduceLE, Int.reduceLT, Nat.reduceLeDiff, UInt8.reduceToNat, ↓reduceIte, Nat.reduceEqDiff, Nat.reduceAdd, reduceCtorEq, Int.reduceToNat, clsL, clsS, clsC, Tryd.f93, f0, f3, hgr2, k0, ne21, ne21n]
      generalize lenF s2 (all * 8) 8 = s3 at *
      refine run_loop (fun k env3 h3 => ∃ (i : Nat) (l : V), k = 8 - i ∧ i ≤ 8 ∧ env3 48 = .slice h.nx 1 8 8 ∧ env3 49 = .int .i64 (8 : Nat) ∧ env3 50 = .int .i64 i ∧ env3 7 = l ∧ Ext h h3 ∧ h.nx < h3.nx ∧ h3.get h.nx = some (.cells (s3.cells all) 140 false) ∧ Wx.Acc (h.nx + 1) h3 l (bytesV (outF (s3.ws.take i))) 5 1) 8 ⟨0, .nilslice, ?_⟩ ?_
      · simp +contextual (disch := first | (simp only [factsC, clsL, clsS, clsC, isPtrD]; done) | omega | (simp only [push_nx, put_nx, del_nx]; omega) | (refine Nat.le_antisymm ?_ ?_ <;> simp only [push_nx, put_nx, del_nx] <;> omega) | fail) only [wpy, factsC, wpb, cst, wpk, wpl, forall_const, implies_true, false_implies, Int.reduceLE, Int.reduceLT, Nat.reduceLeDiff, UInt8.reduceToNat, ↓reduceIte, Nat.reduceEqDiff, Nat.reduceAdd, reduceCtorEq, Int.reduceToNat, clsL, clsS, clsC]
        exact ⟨hx2, hn2, hgl, .inl ⟨rfl, rfl⟩⟩
      rintro k env3 h3 ⟨i, l, rfl, hi, k48, k49, k50, k7, hx3, hn3, hg3, hl⟩
      have hc1 := hl.cell.1
      have hc2 := hl.cell.2
      by_cases hi2 : i < 8
      · have gwi : (s3.cells all)[1 + i]? = some (.int .u32 (s3.ws.getD i 0)) := hashC_w hok3.1 hok3.2.1 hi2
        have hst : outF (s3.ws.take (i + 1)) = outF (s3.ws.take i) ++ outB (s3.ws.getD i 0) := by
          rw [outF, List.take_succ_eq_append_getElem (by rw [hok3.1]; exact hi2), List.flatMap_append, List.getD_eq_getElem?_getD, List.getElem?_eq_getElem (by rw [hok3.1]; exact hi2)]
          simp [outF]
        simp +contextual (disch := first | (simp only [factsC, clsL, clsS, clsC, isPtrD]; done) | omega | (simp only [push_nx, put_nx, del_nx]; omega) | (refine Nat.le_antisymm ?_ ?_ <;> simp only [push_nx, put_nx, del_nx] <;> omega) | fail) only [wpy, factsC, wpb, cst, wpk, wpl, forall_const, implies_true, false_implies, Int.reduceLE, Int.reduceLT, Nat.reduceLeDiff, UInt8.reduceToNat, ↓reduceIte, Nat.reduceEqDiff, Nat.reduceAdd, reduceCtorEq, Int.reduceToNat, clsL, clsS, clsC, Tryd.f93, k48, k49, k50, k7, hi2, hg3, gwi]
        refine append_new (sv := l) (n0 := h.nx + 1) (by simp +contextual (disch := first | (simp only [factsC, clsL, clsS, clsC, isPtrD]; done) | omega | (simp only [push_nx, put_nx, del_nx]; omega) | (refine Nat.le_antisymm ?_ ?_ <;> simp only [push_nx, put_nx, del_nx] <;> omega) | fail) only [wpy, factsC, wpb, cst, wpk, wpl, forall_const, implies_true, false_implies, Int.reduceLE, Int.reduceLT, Nat.reduceLeDiff, UInt8.reduceToNat, ↓reduceIte, Nat.reduceEqDiff, Nat.reduceAdd, reduceCtorEq, Int.reduceToNat, clsL, clsS, clsC]) D1.ap41 ⟨.slice 5, by kernel_rfl, rfl⟩ hl (by simp +contextual (disch := first | (simp only [factsC, clsL, clsS, clsC, isPtrD]; done) | omega | (simp only [push_nx, put_nx, del_nx]; omega) | (refine Nat.le_antisymm ?_ ?_ <;> simp only [push_nx, put_nx, del_nx] <;> omega) | fail) only [wpy, factsC, wpb, cst, wpk, wpl, forall_const, implies_true, false_implies, Int.reduceLE, Int.reduceLT, Nat.reduceLeDiff, UInt8.reduceToNat, ↓reduceIte, Nat.reduceEqDiff, Nat.reduceAdd, reduceCtorEq, Int.reduceToNat, clsL, clsS, clsC]) (n := 4) (by decide) rfl rfl ?_ (by decide) (fun k hk => by rw [fresh_def]; exact .inl (by omega)) (by omega) ?_
        · rw [bytesV_len, outF_len, List.length_take]
          show _ + 4 ≤ _
          omega
        intro v h4 L ha4 hn4 hf4 hf5 _
        have hv1 := ha4.cell.1
        have hv2 := ha4.cell.2
        have hnl : ∀ o n m, l ≠ .slice h.nx o n m := fun o n m => hl.ne (Nat.lt_succ_self _)
        have g4 : h4.get h.nx = some (.cells (s3.cells all) 140 false) := by rw [hf4 h.nx hn3 hnl]; exact hg3
        simp +contextual (disch := first | (simp only [factsC, clsL, clsS, clsC, isPtrD]; done) | omega | (simp only [push_nx, put_nx, del_nx]; omega) | (refine Nat.le_antisymm ?_ ?_ <;> simp only [push_nx, put_nx, del_nx] <;> omega) | fail) only [wpy, factsC, wpb, cst, wpk, wpl, forall_const, implies_true, false_implies, Int.reduceLE, Int.reduceLT, Nat.reduceLeDiff, UInt8.reduceToNat, ↓reduceIte, Nat.reduceEqDiff, Nat.reduceAdd, reduceCtorEq, Int.reduceToNat, clsL, clsS, clsC, Tryd.f93, k48, k49, k50, k7, hi2, hv1, hv2]
        refine ⟨_, by omega, i + 1, v, rfl, by omega, rfl, rfl, ⟨by have := hx3.1; omega, fun k hk => by rw [hf5 k (by omega), hx3.2 k hk]⟩, by omega, g4, ?_⟩
        rw [hst, show bytesV (outF (s3.ws.take i) ++ outB (s3.ws.getD i 0)) = bytesV (outF (s3.ws.take i)) ++ bytesV (outB (s3.ws.getD i 0)) by simp [bytesV]]
        have hnew : bytesV (outB (s3.ws.getD i 0)) = [.int .u8 (IntKind.u8.wrap (iShr .u32 (s3.ws.getD i 0) 24)), .int .u8 (IntKind.u8.wrap (iShr .u32 (s3.ws.getD i 0) 16)), .int .u8 (IntKind.u8.wrap (iShr .u32 (s3.ws.getD i 0) 8)), .int .u8 (IntKind.u8.wrap (s3.ws.getD i 0))] := by
          simp only [outB, bytesV, List.map_cons, List.map_nil, u8_nat]
        rw [hnew]
        exact ha4
      · obtain rfl : i = 8 := by omega
        rw [List.take_of_length_le (by rw [hok3.1]; exact Nat.le_refl _)] at hl
        simp +contextual (disch := first | (simp only [factsC, clsL, clsS, clsC, isPtrD]; done) | omega | (simp only [push_nx, put_nx, del_nx]; omega) | (refine Nat.le_antisymm ?_ ?_ <;> simp only [push_nx, put_nx, del_nx] <;> omega) | fail) only [wpy, factsC, wpb, cst, wpk, wpl, forall_const, implies_true, false_implies, Int.reduceLE, Int.reduceLT, Nat.reduceLeDiff, UInt8.reduceToNat, ↓reduceIte, Nat.reduceEqDiff, Nat.reduceAdd, reduceCtorEq, Int.reduceToNat, clsL, clsS, clsC, Tryd.f93, k48, k49, k50, k7, hi2]
        first | exact ⟨hx3, hl.mono (by omega)⟩ | trace_state
    · obtain ⟨q, rfl⟩ : ∃ q, j = q + 1 := ⟨j - 1, by omega⟩
      have eq1 : (((q + 1 : Nat) : Int) - 1) = (q : Int) := by omega
      rw [eq1] at f5
      have w8q : IntKind.i64.wrap (8 * (q : Int)) = ((8 * q : Nat) : Int) := by
        unfold IntKind.wrap
        simp [IntKind.signed, IntKind.bits]
        omega
      have hlq : lenF s2 (all * 8) (8 - q) = add1 (lenF s2 (all * 8) (8 - (q + 1))) (lenB (all * 8) q) := by
        rw [show 8 - q = (8 - (q + 1)) + 1 by omega, show lenF s2 (all * 8) (8 - (q + 1) + 1) = add1 (lenF s2 (all * 8) (8 - (q + 1))) (lenB (all * 8) (7 - (8 - (q + 1)))) from rfl, show 7 - (8 - (q + 1)) = q by omega]
      have hok3 := lenF_ok hok2 (all * 8) (8 - (q + 1))
      have hq0 : ¬ 8 * q < 0 := by omega
      simp +contextual (disch := first | (simp only [factsC, clsL, clsS, clsC, isPtrD]; done) | omega | (simp only [push_nx, put_nx, del_nx]; omega) | (refine Nat.le_antisymm ?_ ?_ <;> simp only [push_nx, put_nx, del_nx] <;> omega) | fail) only [wpy, factsC, wpb, cst, wpk, wpl, forall_const, implies_true, false_implies, Int.reduceLE, Int.reduceLT, Nat.reduceLeDiff, UInt8.reduceToNat, ↓reduceIte, Nat.reduceEqDiff, Nat.reduceAdd, reduceCtorEq, Int.reduceToNat, clsL, clsS, clsC, Tryd.f93, f0, f3, f4, f5, w8q, hq0]
      refine callF_of (add_one hS h.nx (lenB (all * 8) q) _ all _ _ rfl _ (by rw [lenB, u8_nat]) hok3 (lenB_lt _ _) hn2 hgl) (fun k q => by subst q; rw [fresh_def]; exact .inl (Nat.le_refl _)) ?_
      rintro v h4 ⟨rfl, hx4, hg4⟩
      have wq1 : IntKind.i64.wrap ((q : Int) - 1) = (q : Int) - 1 := by
        unfold IntKind.wrap
        simp [IntKind.signed, IntKind.bits]
        omega
      simp +contextual (disch := first | (simp only [factsC, clsL, clsS, clsC, isPtrD]; done) | omega | (simp only [push_nx, put_nx, del_nx]; omega) | (refine Nat.le_antisymm ?_ ?_ <;> simp only [push_nx, put_nx, del_nx] <;> omega) | fail) only [wpy, factsC, wpb, cst, wpk, wpl, forall_const, implies_true, false_implies, Int.reduceLE, Int.reduceLT, Nat.reduceLeDiff, UInt8.reduceToNat, ↓reduceIte, Nat.reduceEqDiff, Nat.reduceAdd, reduceCtorEq, Int.reduceToNat, clsL, clsS, clsC, Tryd.f93, f0, f3, f4, f5, wq1]
      exact ⟨q, by omega, q, rfl, by omega, rfl, ⟨by have := hx2.1; have := hx4.1; omega, fun k hk => by rw [hx4.2 k (by have := hx2.1; omega) (by omega), hx2.2 k hk]⟩, by have := hx4.1; omega, by rw [hlq]; exact hg4⟩
  · have hlt := padM_lt hok2.2.2.2 h56
    rw [if_neg h56] at hp
    have h56' := eq_false h56
    simp +contextual (disch := first | (simp only [factsC, clsL, clsS, clsC, isPtrD]; done) | omega | (simp only [push_nx, put_nx, del_nx]; omega) | (refine Nat.le_antisymm ?_ ?_ <;> simp only [push_nx, put_nx, del_nx] <;> omega) | fail) only [wpy, factsC, wpb, cst, wpk, wpl, forall_const, implies_true, false_implies, Int.reduceLE, Int.reduceLT, Nat.reduceLeDiff, UInt8.reduceToNat, ↓reduceIte, Nat.reduceEqDiff, Nat.reduceAdd, reduceCtorEq, Int.reduceToNat, clsL, clsS, clsC, Tryd.f93, e0, e3, hg2, gn, h56']
    refine callF_of (add_one hS h.nx 0 s2 all _ _ rfl _ rfl hok2 (by decide) hn' hg2) (fun k q => by subst q; rw [fresh_def]; exact .inl (Nat.le_refl _)) ?_
    rintro v h4 ⟨rfl, hx4, hg4⟩
    simp +contextual (disch := first | (simp only [factsC, clsL, clsS, clsC, isPtrD]; done) | omega | (simp only [push_nx, put_nx, del_nx]; omega) | (refine Nat.le_antisymm ?_ ?_ <;> simp only [push_nx, put_nx, del_nx] <;> omega) | fail) only [wpy, factsC, wpb, cst, wpk, wpl, forall_const, implies_true, false_implies, Int.reduceLE, Int.reduceLT, Nat.reduceLeDiff, UInt8.reduceToNat, ↓reduceIte, Nat.reduceEqDiff, Nat.reduceAdd, reduceCtorEq, Int.reduceToNat, clsL, clsS, clsC, Tryd.f93, e0, e3]
    exact ⟨_, hlt, add1 s2 0, f, rfl, by omega, hp, add1_ok hok2 (by decide), ⟨by have := hx.1; have := hx4.1; omega, fun k hk => by rw [hx4.2 k (by have := hx.1; omega) (by omega), hx.2 k hk]⟩, by have := hx4.1; omega, hg4⟩
theorem sum_spec (b m : Nat) (l : List Nat) (e : TypeId) (fl : Bool) (h : H) (hl : Bytes l) (hll : l.length < 2 ^ 40) (hb : b < h.nx) (hgb : h.get b = some (.cells (bytesV l) e fl)) : Pure S.cfg 51 [.int .i64 2, .slice b 0 l.length m] h fun v h' => Wx.Acc h.nx h' v (bytesV (shaF l)) 5 1 := by
  refine into Tryd.f51 _ Tryd.func51 (hS.ownH _ (by decide)) rfl rfl (by kernel_rfl) (by kernel_rfl) ?_
  simp +contextual (disch := first | (simp only [factsC, clsL, clsS, clsC, isPtrD]; done) | omega | (simp only [push_nx, put_nx, del_nx]; omega) | (refine Nat.le_antisymm ?_ ?_ <;> simp only [push_nx, put_nx, del_nx] <;> omega) | fail) only [wpy, factsC, wpb, cst, wpk, wpl, forall_const, implies_true, false_implies, Int.reduceLE, Int.reduceLT, Nat.reduceLeDiff, UInt8.reduceToNat, ↓reduceIte, Nat.reduceEqDiff, Nat.reduceAdd, reduceCtorEq, Int.reduceToNat, clsL, clsS, clsC, Tryd.f51]
  refine callF_pure (new_spec hS _) ?_
  rintro v h1 hx1 ⟨r, rfl, hr0, hr1, hg1⟩
  simp +contextual (disch := first | (simp only [factsC, clsL, clsS, clsC, isPtrD]; done) | omega | (simp only [push_nx, put_nx, del_nx]; omega) | (refine Nat.le_antisymm ?_ ?_ <;> simp only [push_nx, put_nx, del_nx] <;> omega) | fail) only [wpy, factsC, wpb, cst, wpk, wpl, forall_const, implies_true, false_implies, Int.reduceLE, Int.reduceLT, Nat.reduceLeDiff, UInt8.reduceToNat, ↓reduceIte, Nat.reduceEqDiff, Nat.reduceAdd, reduceCtorEq, Int.reduceToNat, clsL, clsS, clsC, Tryd.f51]
  refine callF_of (write_spec hS r b m l newS e fl h1 newS_ok hl hll hr1 (Nat.lt_of_lt_of_le hb hx1.1) (by omega) hg1 (by rw [hx1.2 b hb]; exact hgb)) (fun k q => by subst q; rw [fresh_def]; exact .inl hr0) ?_
  rintro v h2 ⟨rfl, hx2, hg2⟩
  have hX2 : Ext h h2 := ⟨Nat.le_trans hx1.1 hx2.1, fun k hk => by rw [hx2.2 k (Nat.lt_of_lt_of_le hk hx1.1) (by omega), hx1.2 k hk]⟩
  simp +contextual (disch := first | (simp only [factsC, clsL, clsS, clsC, isPtrD]; done) | omega | (simp only [push_nx, put_nx, del_nx]; omega) | (refine Nat.le_antisymm ?_ ?_ <;> simp only [push_nx, put_nx, del_nx] <;> omega) | fail) only [wpy, factsC, wpb, cst, wpk, wpl, forall_const, implies_true, false_implies, Int.reduceLE, Int.reduceLT, Nat.reduceLeDiff, UInt8.reduceToNat, ↓reduceIte, Nat.reduceEqDiff, Nat.reduceAdd, reduceCtorEq, Int.reduceToNat, clsL, clsS, clsC, Tryd.f51]
  refine callF_pure (Sum_spec hS r _ l.length _ (addF_ok newS_ok hl) hll (Nat.lt_of_lt_of_le hr1 hx2.1) hg2) ?_
  intro v h3 hx3 ha3
  have hv1 := ha3.cell.1
  have hv2 := ha3.cell.2
  simp +contextual (disch := first | (simp only [factsC, clsL, clsS, clsC, isPtrD]; done) | omega | (simp only [push_nx, put_nx, del_nx]; omega) | (refine Nat.le_antisymm ?_ ?_ <;> simp only [push_nx, put_nx, del_nx] <;> omega) | fail) only [wpy, factsC, wpb, cst, wpk, wpl, forall_const, implies_true, false_implies, Int.reduceLE, Int.reduceLT, Nat.reduceLeDiff, UInt8.reduceToNat, ↓reduceIte, Nat.reduceEqDiff, Nat.reduceAdd, reduceCtorEq, Int.reduceToNat, clsL, clsS, clsC, Tryd.f51, hv1, hv2]
  exact ⟨hX2.trans hx3, ha3.mono hX2.1⟩
theorem sum256_spec (b m : Nat) (l : List Nat) (e : TypeId) (fl : Bool) (h : H) (hl : Bytes l) (hll : l.length < 2 ^ 40) (hb : b < h.nx) (hgb : h.get b = some (.cells (bytesV l) e fl)) : Pure S.cfg 25 [.slice b 0 l.length m] h fun v h' => Wx.Acc h.nx h' v (bytesV (shaF l)) 5 1 := by
  refine into Tryd.f25 _ Tryd.func25 (hS.ownH _ (by decide)) rfl rfl (by kernel_rfl) (by kernel_rfl) ?_
  simp +contextual (disch := first | (simp only [factsC, clsL, clsS, clsC, isPtrD]; done) | omega | (simp only [push_nx, put_nx, del_nx]; omega) | (refine Nat.le_antisymm ?_ ?_ <;> simp only [push_nx, put_nx, del_nx] <;> omega) | fail) only [wpy, factsC, wpb, cst, wpk, wpl, forall_const, implies_true, false_implies, Int.reduceLE, Int.reduceLT, Nat.reduceLeDiff, UInt8.reduceToNat, ↓reduceIte, Nat.reduceEqDiff, Nat.reduceAdd, reduceCtorEq, Int.reduceToNat, clsL, clsS, clsC, Tryd.f25]
  refine callF_pure (sum_spec hS b m l e fl h hl hll hb hgb) ?_
  intro v h3 hx3 ha3
  have hv1 := ha3.cell.1
  have hv2 := ha3.cell.2
  simp +contextual (disch := first | (simp only [factsC, clsL, clsS, clsC, isPtrD]; done) | omega | (simp only [push_nx, put_nx, del_nx]; omega) | (refine Nat.le_antisymm ?_ ?_ <;> simp only [push_nx, put_nx, del_nx] <;> omega) | fail) only [wpy, factsC, wpb, cst, wpk, wpl, forall_const, implies_true, false_implies, Int.reduceLE, Int.reduceLT, Nat.reduceLeDiff, UInt8.reduceToNat, ↓reduceIte, Nat.reduceEqDiff, Nat.reduceAdd, reduceCtorEq, Int.reduceToNat, clsL, clsS, clsC, Tryd.f25, hv1, hv2]
  exact ⟨hx3, ha3⟩
end
end Go.Proofs.YtkibhdbmamfjcaaDoor

/-
  digest.Of and the law DigestHash, whatever the text.
-/
set_option linter.unusedSimpArgs false
set_option linter.unusedVariables false
set_option linter.defProp false
set_option maxRecDepth 10000
namespace Go.Proofs.YtkibhdbmamfjcaaDoor
open Go.Proofs Go.Lx Go.Wx Go.IntWalk
noncomputable section

def digs : List Nat := [48, 49, 50, 51, 52, 53, 54, 55, 56, 57, 97, 98, 99, 100, 101, 102]
def hexB (b : Nat) : List Nat := [digs.getD (b / 16) 0, digs.getD (b % 16) 0]
def hexF (l : List Nat) : List Nat := l.flatMap hexB
theorem shr4 : ∀ b : Nat, b < 256 → iShr .u8 (b : Nat) 4 = ((b / 16 : Nat) : Int) := of_decide_eq_true (by kernel_rfl)
theorem and15 : ∀ b : Nat, b < 256 → iAnd .u8 (b : Nat) 15 = ((b % 16 : Nat) : Int) := of_decide_eq_true (by kernel_rfl)
theorem digs_lt (i : Nat) : digs.getD i 0 < 256 := by
  by_cases h : i < 16
  · have : ∀ i : Nat, i < 16 → digs.getD i 0 < 256 := of_decide_eq_true (by kernel_rfl)
    exact this i h
  · rw [List.getD_eq_getElem?_getD, List.getElem?_eq_none (by show 16 ≤ i; omega)]
    decide
theorem hexF_len : ∀ (l : List Nat), (hexF l).length = l.length * 2
  | [] => rfl
  | b :: l => by
    rw [hexF, List.flatMap_cons, List.length_append, List.length_cons, show (l.flatMap hexB).length = l.length * 2 from hexF_len l]
    show 2 + _ = _
    omega
theorem hexF_at : ∀ (l : List Nat) (i : Nat), i < l.length * 2 → (hexF l).getD i 0 = digs.getD (if i % 2 = 1 then (l.getD (i / 2) 0) % 16 else (l.getD (i / 2) 0) / 16) 0
  | [], i, h => by simp at h
  | b :: l, 0, h => rfl
  | b :: l, 1, h => rfl
  | b :: l, i + 2, h => by
    have ih := hexF_at l i (by simp at h; omega)
    have e1 : (i + 2) / 2 = i / 2 + 1 := by omega
    have e2 : (i + 2) % 2 = i % 2 := by omega
    rw [e1, e2, List.getD_cons_succ, ← ih]
    rfl
theorem hexF_bytes (l : List Nat) : Bytes (hexF l) := by
  intro x hx
  obtain ⟨y, _, hy⟩ := List.mem_flatMap.1 hx
  simp only [hexB, List.mem_cons, List.not_mem_nil, or_false] at hy
  rcases hy with rfl | rfl <;> exact digs_lt _
theorem digF_ok {s : List Nat} (hb : Bytes s) (hs : s.length ≤ 2000) : Bytes (digF s).t ∧ (digF s).t.length < 2 ^ 36 ∧ (¬ ((digF s).e = 0 ∧ (digF s).p = 0) → (digF s).t = []) := by
  rw [digF, if_neg (by omega)]
  cases hA : allF s with
  | inl ws =>
    have hg := wordsF_good (allF_good hb hA)
    refine ⟨bytes_join _ _, ?_, fun q => (q ⟨rfl, rfl⟩).elim⟩
    have h1 := joinF_len (ts := (wordsF ws).map tellF) (sep := [32]) (B := 9 * s.length + 20) fun t ht => by
      obtain ⟨w, hw, rfl⟩ := List.mem_map.1 ht
      exact (tellF_ok (hg.2 w hw)).2
    rw [List.length_map] at h1
    have h2 : (wordsF ws).length * (9 * s.length + 20 + [32].length) ≤ 2000 * 18021 := Nat.mul_le_mul (Nat.le_trans hg.1 hs) (by show 9 * s.length + 20 + 1 ≤ 18021; omega)
    show (joinF _ _).length < _
    omega
  | inr ep =>
    obtain ⟨e, p⟩ := ep
    exact ⟨(by intro b hb; cases hb), (by show 0 < 2 ^ 36; decide), fun _ => rfl⟩

variable {S : Set0} (hS : StdH S)
include hS
set_option maxHeartbeats 2000000 in
theorem of_spec (s : List Nat) (h : H) (hb : Bytes s) (hs : s.length ≤ 2000) : Pure S.cfg 23 [.str s] h fun v _ => v = .tuple [.str (if (digF s).e = 0 ∧ (digF s).p = 0 then hexF ((shaF (digF s).t).take 8) else []), .agg [.int .i64 (digF s).e, .int .i64 (digF s).p]] := by
  refine into Tryd.f23 _ Tryd.func23 (hS.ownD _ (by decide)) rfl rfl (by kernel_rfl) (by kernel_rfl) ?_
  simp +contextual (disch := first | (simp only [factsC, clsL, clsS, clsC, isPtrD]; done) | omega | (simp only [push_nx, put_nx, del_nx]; omega) | (refine Nat.le_antisymm ?_ ?_ <;> simp only [push_nx, put_nx, del_nx] <;> omega) | fail) only [wpy, factsC, wpb, cst, wpk, wpl, forall_const, implies_true, false_implies, Int.reduceLE, Int.reduceLT, Nat.reduceLeDiff, UInt8.reduceToNat, ↓reduceIte, Nat.reduceEqDiff, Nat.reduceAdd, reduceCtorEq, Int.reduceToNat, clsL, clsS, clsC, Tryd.f23]
  refine callF_pure (text_spec' hS.toStdD s _ hb (by omega)) ?_
  obtain ⟨k1, k2, k3⟩ := digF_ok hb hs
  rintro v h1 hx1 rfl
  have hX1 : Ext h h1 := ((Ext.refl h).push _).trans hx1
  have g1 : h1.get h.nx = some (.cells [.int .i64 0, .int .i64 0] 26 false) := by rw [hx1.2 h.nx (Nat.lt_succ_self _), push_eq rfl]
  have n1 : ¬ h.nx = h1.nx := by have := hx1.1; rw [push_nx] at this; omega
  have hTv : (digF s).v = .tuple [.str (digF s).t, .agg [.int .i64 (digF s).e, .int .i64 (digF s).p]] := rfl
  rw [hTv]
  generalize digF s = T at *
  by_cases hf : T.e = 0 ∧ T.p = 0
  · rw [if_pos hf]
    have hf' := eq_true hf
    obtain ⟨f1, f2⟩ := hf
    simp +contextual (disch := first | (simp only [factsC, clsL, clsS, clsC, isPtrD]; done) | omega | (simp only [push_nx, put_nx, del_nx]; omega) | (refine Nat.le_antisymm ?_ ?_ <;> simp only [push_nx, put_nx, del_nx] <;> omega) | fail) only [wpy, factsC, wpb, cst, wpk, wpl, forall_const, implies_true, false_implies, Int.reduceLE, Int.reduceLT, Nat.reduceLeDiff, UInt8.reduceToNat, ↓reduceIte, Nat.reduceEqDiff, Nat.reduceAdd, reduceCtorEq, Int.reduceToNat, clsL, clsS, clsC, Tryd.f23, dagg_neq, hf', g1, n1]
    refine ⟨.inr hX1.1, callF_pure (sum256_spec hS (h1.nx + 1) T.t.length T.t 5 true _ k1 (by omega) (by show h1.nx + 1 < h1.nx + 1 + 1; omega) (push_eq rfl)) ?_⟩
    intro v2 h2 hx2 ha2
    have hX2 : Ext h h2 := (hX1.trans ((Ext.new h1 _ _).push _)).trans hx2
    have hsl := shaF_len k1
    have g2 : h2.get h.nx = some (.cells [.int .i64 0, .int .i64 0] 26 false) := by
      have := hx1.1
      simp only [push_nx] at this
      rw [hx2.2 h.nx (by simp only [push_nx, put_nx]; omega), push_ne (by simp only [push_nx, put_nx]; omega), put_ne (by omega), push_ne (by omega)]
      exact g1
    have hn2 : h.nx < h2.nx := by
      have := hx1.1
      have h3 := hx2.1
      simp only [push_nx, put_nx] at this h3
      omega
    rcases ha2 with ⟨_, q⟩ | ⟨b, n, hb0, hb1, rfl, hn, hg, hl⟩
    · have := congrArg List.length q
      rw [bytesV_len, hsl] at this
      cases this
    rw [bytesV_len, hsl, Nat.mul_one] at hl
    subst hl
    have hsb : Bytes (shaF T.t) := outF_bytes _
    generalize shaF T.t = hs at *
    simp +contextual (disch := first | (simp only [factsC, clsL, clsS, clsC, isPtrD]; done) | omega | (simp only [push_nx, put_nx, del_nx]; omega) | (refine Nat.le_antisymm ?_ ?_ <;> simp only [push_nx, put_nx, del_nx] <;> omega) | fail) only [wpy, factsC, wpb, cst, wpk, wpl, forall_const, implies_true, false_implies, Int.reduceLE, Int.reduceLT, Nat.reduceLeDiff, UInt8.reduceToNat, ↓reduceIte, Nat.reduceEqDiff, Nat.reduceAdd, reduceCtorEq, Int.reduceToNat, clsL, clsS, clsC, Tryd.f23]
    refine slice_row (e := 5) (sz := 1) (b := b) (o := 0) (n := 32) (m := 32) (l := 0) (hh := 8) (mm := 32) (by kernel_rfl) D1.sz5 (by simp +contextual (disch := first | (simp only [factsC, clsL, clsS, clsC, isPtrD]; done) | omega | (simp only [push_nx, put_nx, del_nx]; omega) | (refine Nat.le_antisymm ?_ ?_ <;> simp only [push_nx, put_nx, del_nx] <;> omega) | fail) only [wpy, factsC, wpb, cst, wpk, wpl, forall_const, implies_true, false_implies, Int.reduceLE, Int.reduceLT, Nat.reduceLeDiff, UInt8.reduceToNat, ↓reduceIte, Nat.reduceEqDiff, Nat.reduceAdd, reduceCtorEq, Int.reduceToNat, clsL, clsS, clsC]) (by rw [hg]; rfl) (fun _ => rfl) (by simp +contextual (disch := first | (simp only [factsC, clsL, clsS, clsC, isPtrD]; done) | omega | (simp only [push_nx, put_nx, del_nx]; omega) | (refine Nat.le_antisymm ?_ ?_ <;> simp only [push_nx, put_nx, del_nx] <;> omega) | fail) only [wpy, factsC, wpb, cst, wpk, wpl, forall_const, implies_true, false_implies, Int.reduceLE, Int.reduceLT, Nat.reduceLeDiff, UInt8.reduceToNat, ↓reduceIte, Nat.reduceEqDiff, Nat.reduceAdd, reduceCtorEq, Int.reduceToNat, clsL, clsS, clsC]; exact bounds_hi (b := 8) (by decide)) (by decide) ?_
    simp +contextual (disch := first | (simp only [factsC, clsL, clsS, clsC, isPtrD]; done) | omega | (simp only [push_nx, put_nx, del_nx]; omega) | (refine Nat.le_antisymm ?_ ?_ <;> simp only [push_nx, put_nx, del_nx] <;> omega) | fail) only [wpy, factsC, wpb, cst, wpk, wpl, forall_const, implies_true, false_implies, Int.reduceLE, Int.reduceLT, Nat.reduceLeDiff, UInt8.reduceToNat, ↓reduceIte, Nat.reduceEqDiff, Nat.reduceAdd, reduceCtorEq, Int.reduceToNat, clsL, clsS, clsC, Tryd.f23]
    refine run_loop (fun k env h' => ∃ (i : Nat) (l : V), k = 8 - i ∧ i ≤ 8 ∧ env 3 = .ptr h.nx 0 ∧ env 6 = l ∧ env 21 = .slice b 0 8 32 ∧ env 22 = .int .i64 (8 : Nat) ∧ env 23 = .int .i64 i ∧ Ext h h' ∧ h2.nx ≤ h'.nx ∧ h'.get b = some (.cells (bytesV hs) 5 true) ∧ h'.get h.nx = some (.cells [.int .i64 0, .int .i64 0] 26 false) ∧ Wx.Acc h2.nx h' l (bytesV (hexF (hs.take i))) 5 1) 8 ⟨0, .nilslice, ?_⟩ ?_
    · simp +contextual (disch := first | (simp only [factsC, clsL, clsS, clsC, isPtrD]; done) | omega | (simp only [push_nx, put_nx, del_nx]; omega) | (refine Nat.le_antisymm ?_ ?_ <;> simp only [push_nx, put_nx, del_nx] <;> omega) | fail) only [wpy, factsC, wpb, cst, wpk, wpl, forall_const, implies_true, false_implies, Int.reduceLE, Int.reduceLT, Nat.reduceLeDiff, UInt8.reduceToNat, ↓reduceIte, Nat.reduceEqDiff, Nat.reduceAdd, reduceCtorEq, Int.reduceToNat, clsL, clsS, clsC]
      exact ⟨hX2, hg, g2, .inl ⟨rfl, rfl⟩⟩
    rintro k env h' ⟨i, l, rfl, hi, e3, e6, e21, e22, e23, hx, hn', hgb, hgf, hl⟩
    have hc1 := hl.cell.1
    have hc2 := hl.cell.2
    by_cases hi2 : i < 8
    · have hxb : hs.getD i 0 < 256 := by
        rw [List.getD_eq_getElem?_getD, List.getElem?_eq_getElem (by omega)]
        exact hsb _ (List.getElem_mem _)
      have hgx : (bytesV hs)[i]? = some (.int .u8 (hs.getD i 0 : Nat)) := by
        rw [bytesV_get, List.getD_eq_getElem?_getD, List.getElem?_eq_getElem (by omega)]
        rfl
      have hst : hexF (hs.take (i + 1)) = hexF (hs.take i) ++ hexB (hs.getD i 0) := by
        rw [hexF, List.take_succ_eq_append_getElem (by omega), List.flatMap_append, List.getD_eq_getElem?_getD, List.getElem?_eq_getElem (by omega)]
        simp [hexF]
      generalize hs.getD i 0 = x at *
      have z4 := shr4 x hxb
      have z15 := and15 x hxb
      have x16 : x / 16 < 16 := by omega
      have xm : x % 16 < 16 := by omega
      simp +contextual (disch := first | (simp only [factsC, clsL, clsS, clsC, isPtrD]; done) | omega | (simp only [push_nx, put_nx, del_nx]; omega) | (refine Nat.le_antisymm ?_ ?_ <;> simp only [push_nx, put_nx, del_nx] <;> omega) | fail) only [wpy, factsC, wpb, cst, wpk, wpl, forall_const, implies_true, false_implies, Int.reduceLE, Int.reduceLT, Nat.reduceLeDiff, UInt8.reduceToNat, ↓reduceIte, Nat.reduceEqDiff, Nat.reduceAdd, reduceCtorEq, Int.reduceToNat, clsL, clsS, clsC, Tryd.f23, e6, e21, e22, e23, hi2, hgb, hgx]
      refine draw_by [] (by kernel_rfl) ?_
      simp +contextual (disch := first | (simp only [factsC, clsL, clsS, clsC, isPtrD]; done) | omega | (simp only [push_nx, put_nx, del_nx]; omega) | (refine Nat.le_antisymm ?_ ?_ <;> simp only [push_nx, put_nx, del_nx] <;> omega) | fail) only [wpy, factsC, wpb, cst, wpk, wpl, forall_const, implies_true, false_implies, Int.reduceLE, Int.reduceLT, Nat.reduceLeDiff, UInt8.reduceToNat, ↓reduceIte, Nat.reduceEqDiff, Nat.reduceAdd, reduceCtorEq, Int.reduceToNat, clsL, clsS, clsC, Tryd.f23, e6, e21, e22, e23, hi2, z4, z15, x16, xm]
      refine append_new (sv := l) (n0 := h2.nx) (by simp +contextual (disch := first | (simp only [factsC, clsL, clsS, clsC, isPtrD]; done) | omega | (simp only [push_nx, put_nx, del_nx]; omega) | (refine Nat.le_antisymm ?_ ?_ <;> simp only [push_nx, put_nx, del_nx] <;> omega) | fail) only [wpy, factsC, wpb, cst, wpk, wpl, forall_const, implies_true, false_implies, Int.reduceLE, Int.reduceLT, Nat.reduceLeDiff, UInt8.reduceToNat, ↓reduceIte, Nat.reduceEqDiff, Nat.reduceAdd, reduceCtorEq, Int.reduceToNat, clsL, clsS, clsC]) D1.ap41 ⟨.slice 5, by kernel_rfl, rfl⟩ hl (by simp +contextual (disch := first | (simp only [factsC, clsL, clsS, clsC, isPtrD]; done) | omega | (simp only [push_nx, put_nx, del_nx]; omega) | (refine Nat.le_antisymm ?_ ?_ <;> simp only [push_nx, put_nx, del_nx] <;> omega) | fail) only [wpy, factsC, wpb, cst, wpk, wpl, forall_const, implies_true, false_implies, Int.reduceLE, Int.reduceLT, Nat.reduceLeDiff, UInt8.reduceToNat, ↓reduceIte, Nat.reduceEqDiff, Nat.reduceAdd, reduceCtorEq, Int.reduceToNat, clsL, clsS, clsC]) (n := 2) (by decide) rfl rfl ?_ (by decide) (fun k hk => by rw [fresh_def]; exact .inl (by omega)) hn' ?_
      · rw [bytesV_len, hexF_len, List.length_take]
        show _ + 2 ≤ _
        omega
      intro v h4 L ha4 hn4 hf4 hf5 _
      have hv1 := ha4.cell.1
      have hv2 := ha4.cell.2
      have hbl : b < h2.nx := by omega
      simp +contextual (disch := first | (simp only [factsC, clsL, clsS, clsC, isPtrD]; done) | omega | (simp only [push_nx, put_nx, del_nx]; omega) | (refine Nat.le_antisymm ?_ ?_ <;> simp only [push_nx, put_nx, del_nx] <;> omega) | fail) only [wpy, factsC, wpb, cst, wpk, wpl, forall_const, implies_true, false_implies, Int.reduceLE, Int.reduceLT, Nat.reduceLeDiff, UInt8.reduceToNat, ↓reduceIte, Nat.reduceEqDiff, Nat.reduceAdd, reduceCtorEq, Int.reduceToNat, clsL, clsS, clsC, Tryd.f23, e3, e6, e21, e22, e23, hi2, hv1, hv2]
      refine ⟨(by intro p hp; cases hp), _, by omega, i + 1, v, rfl, by omega, rfl, rfl, ⟨by have := hx.1; omega, fun k hk => by rw [hf5 k (by have := hX2.1; omega), hx.2 k hk]⟩, by omega, by rw [hf5 b hbl]; exact hgb, by rw [hf5 h.nx hn2]; exact hgf, ?_⟩
      rw [hst, show bytesV (hexF (hs.take i) ++ hexB x) = bytesV (hexF (hs.take i)) ++ bytesV (hexB x) by simp [bytesV]]
      exact ha4
    · obtain rfl : i = 8 := by omega
      rcases hl with ⟨_, q⟩ | ⟨b', n', hb0', hb1', rfl, hn0, hg', hl'⟩
      · have := congrArg List.length q
        rw [bytesV_len, hexF_len, List.length_take, hsl] at this
        cases this
      have hln : n' = (hexF (hs.take 8)).length := by rw [bytesV_len, Nat.mul_one] at hl'; exact hl'.symm
      have hrd : rdN (h'.get b') 0 n' = some (hexF (hs.take 8)) := by rw [hg', hln]; exact rdN_bytes (hexF_bytes _)
      simp +contextual (disch := first | (simp only [factsC, clsL, clsS, clsC, isPtrD]; done) | omega | (simp only [push_nx, put_nx, del_nx]; omega) | (refine Nat.le_antisymm ?_ ?_ <;> simp only [push_nx, put_nx, del_nx] <;> omega) | fail) only [wpy, factsC, wpb, cst, wpk, wpl, forall_const, implies_true, false_implies, Int.reduceLE, Int.reduceLT, Nat.reduceLeDiff, UInt8.reduceToNat, ↓reduceIte, Nat.reduceEqDiff, Nat.reduceAdd, reduceCtorEq, Int.reduceToNat, clsL, clsS, clsC, Tryd.f23, e3, e6, e21, e22, e23, hi2, hrd, cvBS_slice, cvBSb_some, hgf]
      exact ⟨hx.put (Nat.le_refl _) _, by rw [f1, f2]⟩
  · rw [if_neg hf]
    have hf' := eq_false hf
    simp +contextual (disch := first | (simp only [factsC, clsL, clsS, clsC, isPtrD]; done) | omega | (simp only [push_nx, put_nx, del_nx]; omega) | (refine Nat.le_antisymm ?_ ?_ <;> simp only [push_nx, put_nx, del_nx] <;> omega) | exact dok (by kernel_rfl)) only [draw_calm, draw_calmA, wpy, factsC, wpb, cst, wpk, wpl, forall_const, implies_true, false_implies, Int.reduceLE, Int.reduceLT, Nat.reduceLeDiff, UInt8.reduceToNat, ↓reduceIte, Nat.reduceEqDiff, Nat.reduceAdd, reduceCtorEq, Int.reduceToNat, clsL, clsS, clsC, Tryd.f23, dagg_neq, hf', g1, n1]
    exact ⟨.inr hX1.1, ((hX1.push _).put hX1.1 _).put (Nat.le_refl _) _⟩
set_option maxHeartbeats 2000000 in
theorem dlaw_spec (s : List Nat) (h : H) (hb : Bytes s) (hs : s.length < 2 ^ 63) : Pure S.cfg 7 [.str s] h fun v _ => v = .bool true := by
  refine into Tryd.f7 _ Tryd.func7 (hS.ownH _ (by decide)) rfl rfl (by kernel_rfl) (by kernel_rfl) ?_
  simp +contextual (disch := first | (simp only [factsC, clsL, clsS, clsC, isPtrD]; done) | omega | (simp only [push_nx, put_nx, del_nx]; omega) | (refine Nat.le_antisymm ?_ ?_ <;> simp only [push_nx, put_nx, del_nx] <;> omega) | fail) only [wpy, factsC, wpb, cst, wpk, wpl, forall_const, implies_true, false_implies, Int.reduceLE, Int.reduceLT, Nat.reduceLeDiff, UInt8.reduceToNat, ↓reduceIte, Nat.reduceEqDiff, Nat.reduceAdd, reduceCtorEq, Int.reduceToNat, clsL, clsS, clsC, Tryd.f7]
  refine callF_exact (hS.livesD _) ?_
  by_cases hl : 2000 < s.length
  · simp +contextual (disch := first | (simp only [factsC, clsL, clsS, clsC, isPtrD]; done) | omega | (simp only [push_nx, put_nx, del_nx]; omega) | (refine Nat.le_antisymm ?_ ?_ <;> simp only [push_nx, put_nx, del_nx] <;> omega) | fail) only [wpy, factsC, wpb, cst, wpk, wpl, forall_const, implies_true, false_implies, Int.reduceLE, Int.reduceLT, Nat.reduceLeDiff, UInt8.reduceToNat, ↓reduceIte, Nat.reduceEqDiff, Nat.reduceAdd, reduceCtorEq, Int.reduceToNat, clsL, clsS, clsC, Tryd.f7, hl]
    first | exact ⟨Ext.refl _, bo_true⟩ | exact Ext.refl _ | trace_state
  simp +contextual (disch := first | (simp only [factsC, clsL, clsS, clsC, isPtrD]; done) | omega | (simp only [push_nx, put_nx, del_nx]; omega) | (refine Nat.le_antisymm ?_ ?_ <;> simp only [push_nx, put_nx, del_nx] <;> omega) | fail) only [wpy, factsC, wpb, cst, wpk, wpl, forall_const, implies_true, false_implies, Int.reduceLE, Int.reduceLT, Nat.reduceLeDiff, UInt8.reduceToNat, ↓reduceIte, Nat.reduceEqDiff, Nat.reduceAdd, reduceCtorEq, Int.reduceToNat, clsL, clsS, clsC, Tryd.f7, hl]
  refine callF_pure (of_spec hS s _ hb (by omega)) ?_
  rintro v h1 hx1 rfl
  simp +contextual (disch := first | (simp only [factsC, clsL, clsS, clsC, isPtrD]; done) | omega | (simp only [push_nx, put_nx, del_nx]; omega) | (refine Nat.le_antisymm ?_ ?_ <;> simp only [push_nx, put_nx, del_nx] <;> omega) | fail) only [wpy, factsC, wpb, cst, wpk, wpl, forall_const, implies_true, false_implies, Int.reduceLE, Int.reduceLT, Nat.reduceLeDiff, UInt8.reduceToNat, ↓reduceIte, Nat.reduceEqDiff, Nat.reduceAdd, reduceCtorEq, Int.reduceToNat, clsL, clsS, clsC, Tryd.f7]
  refine ⟨.inr hx1.1, ?_⟩
  refine callF_pure (text_spec' hS.toStdD s _ hb (by omega)) ?_
  obtain ⟨k1, k2, k3⟩ := digF_ok hb (by omega : s.length ≤ 2000)
  rintro v h2 hx2 rfl
  have hTv : (digF s).v = .tuple [.str (digF s).t, .agg [.int .i64 (digF s).e, .int .i64 (digF s).p]] := rfl
  rw [hTv]
  generalize digF s = T at *
  have hn1 : h1.nx < h2.nx := by have := hx2.1; simp only [push_nx, put_nx] at this; omega
  have hX2 : Ext h h2 := (hx1.trans (Ext.new h1 _ _)).trans hx2
  have g1 : h2.get h1.nx = some (.cells [.int .i64 T.e, .int .i64 T.p] 26 false) := by rw [hx2.2 h1.nx (by simp only [push_nx, put_nx]; omega), put_eq rfl]
  have n1 : ¬ h1.nx = h2.nx := by omega
  by_cases hf : T.e = 0 ∧ T.p = 0
  · rw [if_pos hf]
    have hf' := eq_true hf
    obtain ⟨f1, f2⟩ := hf
    simp +contextual (disch := first | (simp only [factsC, clsL, clsS, clsC, isPtrD]; done) | omega | (simp only [push_nx, put_nx, del_nx]; omega) | (refine Nat.le_antisymm ?_ ?_ <;> simp only [push_nx, put_nx, del_nx] <;> omega) | fail) only [wpy, factsC, wpb, cst, wpk, wpl, forall_const, implies_true, false_implies, Int.reduceLE, Int.reduceLT, Nat.reduceLeDiff, UInt8.reduceToNat, ↓reduceIte, Nat.reduceEqDiff, Nat.reduceAdd, reduceCtorEq, Int.reduceToNat, clsL, clsS, clsC, Tryd.f7, dagg_neq, hf', g1, n1]
    refine ⟨.inr hX2.1, callF_pure (sum256_spec hS (h2.nx + 1) T.t.length T.t 5 true _ k1 (by omega) (by show h2.nx + 1 < h2.nx + 1 + 1; omega) (push_eq rfl)) ?_⟩
    intro v3 h3 hx3 ha3
    have hX3 : Ext h h3 := (hX2.trans ((Ext.new h2 _ _).push _)).trans hx3
    have hsl := shaF_len k1
    rcases ha3 with ⟨_, q⟩ | ⟨b, n, hb0, hb1, rfl, hn, hg, hl3⟩
    · have := congrArg List.length q
      rw [bytesV_len, hsl] at this
      cases this
    rw [bytesV_len, hsl, Nat.mul_one] at hl3
    subst hl3
    have hsb : Bytes (shaF T.t) := outF_bytes _
    generalize shaF T.t = hs' at *
    have hxl : (hexF (hs'.take 8)).length = 16 := by rw [hexF_len, List.length_take, hsl]; rfl
    have hx16 : ∀ i, i < 16 → (hexF (hs'.take 8)).getD i 0 = digs.getD (if i % 2 = 1 then hs'.getD (i / 2) 0 % 16 else hs'.getD (i / 2) 0 / 16) 0 := fun i hi => by
      rw [hexF_at _ _ (by rw [List.length_take, hsl]; show i < 16; exact hi)]
      have : (hs'.take 8).getD (i / 2) 0 = hs'.getD (i / 2) 0 := by rw [List.getD_eq_getElem?_getD, List.getD_eq_getElem?_getD, List.getElem?_take, if_pos (by omega)]
      rw [this]
    generalize hexF (hs'.take 8) = xs at *
    have c1 : ¬ (32 : Nat) < 8 := by decide
    simp +contextual (disch := first | (simp only [factsC, clsL, clsS, clsC, isPtrD]; done) | omega | (simp only [push_nx, put_nx, del_nx]; omega) | (refine Nat.le_antisymm ?_ ?_ <;> simp only [push_nx, put_nx, del_nx] <;> omega) | fail) only [wpy, factsC, wpb, cst, wpk, wpl, forall_const, implies_true, false_implies, Int.reduceLE, Int.reduceLT, Nat.reduceLeDiff, UInt8.reduceToNat, ↓reduceIte, Nat.reduceEqDiff, Nat.reduceAdd, reduceCtorEq, Int.reduceToNat, clsL, clsS, clsC, Tryd.f7, hxl, c1, eq_self']
    refine run_loop (fun k env h' => ∃ (i : Nat), k = 16 - i ∧ i ≤ 16 ∧ env 3 = .str xs ∧ env 7 = .slice b 0 32 32 ∧ env 8 = .int .i64 i ∧ Ext h h' ∧ h'.get b = some (.cells (bytesV hs') 5 true)) 16 ⟨0, ?_⟩ ?_
    · simp +contextual (disch := first | (simp only [factsC, clsL, clsS, clsC, isPtrD]; done) | omega | (simp only [push_nx, put_nx, del_nx]; omega) | (refine Nat.le_antisymm ?_ ?_ <;> simp only [push_nx, put_nx, del_nx] <;> omega) | fail) only [wpy, factsC, wpb, cst, wpk, wpl, forall_const, implies_true, false_implies, Int.reduceLE, Int.reduceLT, Nat.reduceLeDiff, UInt8.reduceToNat, ↓reduceIte, Nat.reduceEqDiff, Nat.reduceAdd, reduceCtorEq, Int.reduceToNat, clsL, clsS, clsC]
      exact ⟨hX3, hg⟩
    rintro k env h' ⟨i, rfl, hi, e3, e7, e8, hx, hgb⟩
    by_cases hi2 : i < 16
    · have hxi := hx16 i hi2
      have i2 : i / 2 < 32 := by omega
      have hxb : hs'.getD (i / 2) 0 < 256 := by
        rw [List.getD_eq_getElem?_getD, List.getElem?_eq_getElem (by omega)]
        exact hsb _ (List.getElem_mem _)
      have hgx : (bytesV hs')[i / 2]? = some (.int .u8 (hs'.getD (i / 2) 0 : Nat)) := by
        rw [bytesV_get, List.getD_eq_getElem?_getD, List.getElem?_eq_getElem (by omega)]
        rfl
      generalize hs'.getD (i / 2) 0 = x at *
      have x16 : x / 16 < 16 := by omega
      have xm : x % 16 < 16 := by omega
      have t2 : ((i : Int).tdiv 2) = ((i / 2 : Nat) : Int) := rfl
      have t2m : ((i : Int).tmod 2) = ((i % 2 : Nat) : Int) := rfl
      have t16 : ((x : Int).tdiv 16) = ((x / 16 : Nat) : Int) := rfl
      have t16m : ((x : Int).tmod 16) = ((x % 16 : Nat) : Int) := rfl
      have z2 : ((2 : Int) = 0) = False := by decide
      have z16 : ((16 : Int) = 0) = False := by decide
      have wi : IntKind.i64.wrap ((i / 2 : Nat) : Int) = ((i / 2 : Nat) : Int) := by
        unfold IntKind.wrap
        simp [IntKind.signed, IntKind.bits]
        omega
      have wx : IntKind.u8.wrap ((x / 16 : Nat) : Int) = ((x / 16 : Nat) : Int) := by
        unfold IntKind.wrap
        simp [IntKind.signed, IntKind.bits]
        omega
      by_cases ho : i % 2 = 1
      · rw [if_pos ho] at hxi
        have ho' := eq_true ho
        simp +contextual (disch := first | (simp only [factsC, clsL, clsS, clsC, isPtrD]; done) | omega | (simp only [push_nx, put_nx, del_nx]; omega) | (refine Nat.le_antisymm ?_ ?_ <;> simp only [push_nx, put_nx, del_nx] <;> omega) | fail) only [wpy, factsC, wpb, cst, wpk, wpl, forall_const, implies_true, false_implies, Int.reduceLE, Int.reduceLT, Nat.reduceLeDiff, UInt8.reduceToNat, ↓reduceIte, Nat.reduceEqDiff, Nat.reduceAdd, reduceCtorEq, Int.reduceToNat, clsL, clsS, clsC, Tryd.f7, e3, e7, e8, hi2, hgb, hgx, i2, t2, t2m, t16, t16m, z2, z16, wi, wx, ho']
        refine draw_by [] (by kernel_rfl) ?_
        simp +contextual (disch := first | (simp only [factsC, clsL, clsS, clsC, isPtrD]; done) | omega | (simp only [push_nx, put_nx, del_nx]; omega) | (refine Nat.le_antisymm ?_ ?_ <;> simp only [push_nx, put_nx, del_nx] <;> omega) | fail) only [wpy, factsC, wpb, cst, wpk, wpl, forall_const, implies_true, false_implies, Int.reduceLE, Int.reduceLT, Nat.reduceLeDiff, UInt8.reduceToNat, ↓reduceIte, Nat.reduceEqDiff, Nat.reduceAdd, reduceCtorEq, Int.reduceToNat, clsL, clsS, clsC, Tryd.f7, e3, e7, e8, hi2, hxl, hxi, digs, x16, xm, eq_self']
        exact ⟨(by intro p hp; cases hp), _, by omega, i + 1, rfl, by omega, rfl, hx, hgb⟩
      · rw [if_neg ho] at hxi
        have ho' := eq_false ho
        simp +contextual (disch := first | (simp only [factsC, clsL, clsS, clsC, isPtrD]; done) | omega | (simp only [push_nx, put_nx, del_nx]; omega) | (refine Nat.le_antisymm ?_ ?_ <;> simp only [push_nx, put_nx, del_nx] <;> omega) | fail) only [wpy, factsC, wpb, cst, wpk, wpl, forall_const, implies_true, false_implies, Int.reduceLE, Int.reduceLT, Nat.reduceLeDiff, UInt8.reduceToNat, ↓reduceIte, Nat.reduceEqDiff, Nat.reduceAdd, reduceCtorEq, Int.reduceToNat, clsL, clsS, clsC, Tryd.f7, e3, e7, e8, hi2, hgb, hgx, i2, t2, t2m, t16, t16m, z2, z16, wi, wx, ho']
        refine draw_by [] (by kernel_rfl) ?_
        simp +contextual (disch := first | (simp only [factsC, clsL, clsS, clsC, isPtrD]; done) | omega | (simp only [push_nx, put_nx, del_nx]; omega) | (refine Nat.le_antisymm ?_ ?_ <;> simp only [push_nx, put_nx, del_nx] <;> omega) | fail) only [wpy, factsC, wpb, cst, wpk, wpl, forall_const, implies_true, false_implies, Int.reduceLE, Int.reduceLT, Nat.reduceLeDiff, UInt8.reduceToNat, ↓reduceIte, Nat.reduceEqDiff, Nat.reduceAdd, reduceCtorEq, Int.reduceToNat, clsL, clsS, clsC, Tryd.f7, e3, e7, e8, hi2, hxl, hxi, digs, x16, xm, eq_self']
        exact ⟨(by intro p hp; cases hp), _, by omega, i + 1, rfl, by omega, rfl, hx, hgb⟩
    · simp +contextual (disch := first | (simp only [factsC, clsL, clsS, clsC, isPtrD]; done) | omega | (simp only [push_nx, put_nx, del_nx]; omega) | (refine Nat.le_antisymm ?_ ?_ <;> simp only [push_nx, put_nx, del_nx] <;> omega) | fail) only [wpy, factsC, wpb, cst, wpk, wpl, forall_const, implies_true, false_implies, Int.reduceLE, Int.reduceLT, Nat.reduceLeDiff, UInt8.reduceToNat, ↓reduceIte, Nat.reduceEqDiff, Nat.reduceAdd, reduceCtorEq, Int.reduceToNat, clsL, clsS, clsC, Tryd.f7, e3, e7, e8, hi2]
      first | exact hx | trace_state
  · rw [if_neg hf]
    have hf' := eq_false hf
    have ht := k3 hf
    simp +contextual (disch := first | (simp only [factsC, clsL, clsS, clsC, isPtrD]; done) | omega | (simp only [push_nx, put_nx, del_nx]; omega) | (refine Nat.le_antisymm ?_ ?_ <;> simp only [push_nx, put_nx, del_nx] <;> omega) | fail) only [wpy, factsC, wpb, cst, wpk, wpl, forall_const, implies_true, false_implies, Int.reduceLE, Int.reduceLT, Nat.reduceLeDiff, UInt8.reduceToNat, ↓reduceIte, Nat.reduceEqDiff, Nat.reduceAdd, reduceCtorEq, Int.reduceToNat, clsL, clsS, clsC, Tryd.f7, dagg_neq, hf', g1, n1, ht]
    exact ⟨.inr hX2.1, (hX2.push _).put hX2.1 _⟩
end
end Go.Proofs.YtkibhdbmamfjcaaDoor
