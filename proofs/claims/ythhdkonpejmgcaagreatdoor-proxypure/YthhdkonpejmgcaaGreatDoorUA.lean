/-
  Several texts, joined.
-/
import Derived.Test.YthhdkonpejmgcaaGreatDoorProg
import Derived.Test.YthhdkonpejmgcaaGreatDoorWx1
import Derived.Test.YthhdkonpejmgcaaGreatDoorLy2
/-
  Facts of types and shapes of the program of this seat, for the rules.
-/
set_option linter.unusedSimpArgs false
set_option linter.unusedVariables false
set_option linter.defProp false
namespace Go.Proofs.YthhdkonpejmgcaaGreatDoor
open Go.Proofs Go.Lx Go.Wx
noncomputable section

theorem ty42 : tyR Tryz.prog 42 = some (16, true) := by kernel_rfl
theorem by27 : byteS Tryz.prog 27 = true := by kernel_rfl
theorem el27 : elemS Tryz.prog 27 = 5 := by kernel_rfl
theorem ia27 (k o n m : Nat) (kd : IntKind) (i : Int) : indexAddrV Tryz.prog 27 (.slice k o n m) (.int kd i) = if 0 ≤ i ∧ i < n then some (.ptr k (o + i.toNat * 1)) else none := indexAddr_slice (e := 5) (by kernel_rfl) (by kernel_rfl) k o n m kd i
theorem sz5 : szT Tryz.prog 5 = some 1 := by kernel_rfl
theorem bs27_1 (v0_0 : V) : buildSliceL Tryz.prog 27 1 [(0, [v0_0])] = some ([v0_0], 5) := by kernel_rfl
theorem ap27 : apI Tryz.prog 27 = some (5, 1, 1) := by kernel_rfl
theorem ia136 (k o n m : Nat) (kd : IntKind) (i : Int) : indexAddrV Tryz.prog 136 (.slice k o n m) (.int kd i) = if 0 ≤ i ∧ i < n then some (.ptr k (o + i.toNat * 6)) else none := indexAddr_slice (e := 29) (by kernel_rfl) (by kernel_rfl) k o n m kd i
theorem fa29_5 (k o : Nat) : fieldAddrV Tryz.prog 29 (.ptr k o) 5 = some (.ptr k (o + 5)) := by kernel_rfl
theorem ty27 : tyR Tryz.prog 27 = some (1, false) := by kernel_rfl
theorem fa42_0 (k o : Nat) : fieldAddrV Tryz.prog 42 (.ptr k o) 0 = some (.ptr k (o + 0)) := by kernel_rfl
theorem ty32 : tyR Tryz.prog 32 = some (1, false) := by kernel_rfl
theorem fa42_2 (k o : Nat) : fieldAddrV Tryz.prog 42 (.ptr k o) 2 = some (.ptr k (o + 6)) := by kernel_rfl
theorem fa38_1 (k o : Nat) : fieldAddrV Tryz.prog 38 (.ptr k o) 1 = some (.ptr k (o + 1)) := by kernel_rfl
theorem ty36 : tyR Tryz.prog 36 = some (1, false) := by kernel_rfl
theorem fa42_7 (k o : Nat) : fieldAddrV Tryz.prog 42 (.ptr k o) 7 = some (.ptr k (o + 15)) := by kernel_rfl
theorem ty9 : tyR Tryz.prog 9 = some (1, false) := by kernel_rfl
theorem fa42_1 (k o : Nat) : fieldAddrV Tryz.prog 42 (.ptr k o) 1 = some (.ptr k (o + 1)) := by kernel_rfl
theorem ty34 : tyR Tryz.prog 34 = some (5, true) := by kernel_rfl
theorem bs32_1 (v0_0 v0_1 v0_2 v0_3 v0_4 : V) : buildSliceL Tryz.prog 32 1 [(0, [v0_0, v0_1, v0_2, v0_3, v0_4])] = some ([v0_0, v0_1, v0_2, v0_3, v0_4], 34) := by kernel_rfl
theorem fa42_3 (k o : Nat) : fieldAddrV Tryz.prog 42 (.ptr k o) 3 = some (.ptr k (o + 9)) := by kernel_rfl
theorem ty40 : tyR Tryz.prog 40 = some (3, true) := by kernel_rfl
theorem ty38 : tyR Tryz.prog 38 = some (3, true) := by kernel_rfl
theorem fa42_5 (k o : Nat) : fieldAddrV Tryz.prog 42 (.ptr k o) 5 = some (.ptr k (o + 13)) := by kernel_rfl
theorem ty3 : tyR Tryz.prog 3 = some (1, false) := by kernel_rfl
theorem fa42_6 (k o : Nat) : fieldAddrV Tryz.prog 42 (.ptr k o) 6 = some (.ptr k (o + 14)) := by kernel_rfl
-- eq on type 27
theorem bs27_0 : buildSliceL Tryz.prog 27 0 [] = some ([], 5) := by kernel_rfl
theorem ty5 : tyR Tryz.prog 5 = some (1, false) := by kernel_rfl
theorem ia32 (k o n m : Nat) (kd : IntKind) (i : Int) : indexAddrV Tryz.prog 32 (.slice k o n m) (.int kd i) = if 0 ≤ i ∧ i < n then some (.ptr k (o + i.toNat * 5)) else none := indexAddr_slice (e := 34) (by kernel_rfl) (by kernel_rfl) k o n m kd i
theorem ze34 : zeroL Tryz.prog 34 = some [.str [], .str [], .str [], .str [], .bool false] := by kernel_rfl
theorem sz34 : szT Tryz.prog 34 = some 5 := by kernel_rfl
theorem fa34_0 (k o : Nat) : fieldAddrV Tryz.prog 34 (.ptr k o) 0 = some (.ptr k (o + 0)) := by kernel_rfl
theorem ty141 : tyR Tryz.prog 141 = some (7, true) := by kernel_rfl
theorem fa141_3 (k o : Nat) : fieldAddrV Tryz.prog 141 (.ptr k o) 3 = some (.ptr k (o + 3)) := by kernel_rfl
theorem ty86 : tyR Tryz.prog 86 = some (1, false) := by kernel_rfl
theorem fa141_2 (k o : Nat) : fieldAddrV Tryz.prog 141 (.ptr k o) 2 = some (.ptr k (o + 2)) := by kernel_rfl
theorem sz27 : szT Tryz.prog 27 = some 1 := by kernel_rfl
theorem bu226_0_1_2_3 (v0_0 v1_0 v1_1 v1_2 v1_3 v1_4 v1_5 v1_6 v2_0 v3_0 : V) : buildV Tryz.prog 226 [(0, [v0_0]), (1, [v1_0, v1_1, v1_2, v1_3, v1_4, v1_5, v1_6]), (2, [v2_0]), (3, [v3_0])] = some (.agg [v0_0, v1_0, v1_1, v1_2, v1_3, v1_4, v1_5, v1_6, v2_0, v3_0, .int .u32 0, .nilfunc, .str [], .str [], .str [], .str [], .bool false, .bool false, .str []]) := by kernel_rfl
theorem fa226_5 (k o : Nat) : fieldAddrV Tryz.prog 226 (.ptr k o) 5 = some (.ptr k (o + 11)) := by kernel_rfl
theorem sz224 : szT Tryz.prog 224 = some 1 := by kernel_rfl
theorem ze141 : zeroL Tryz.prog 141 = some [.str [], .int .u32 0, .nilslice, .int .u32 0, .int .u8 0, .int .u16 0, .str []] := by kernel_rfl
theorem bu141_0_1_2_3_4_5_6 (v0_0 v1_0 v2_0 v3_0 v4_0 v5_0 v6_0 : V) : buildV Tryz.prog 141 [(0, [v0_0]), (1, [v1_0]), (2, [v2_0]), (3, [v3_0]), (4, [v4_0]), (5, [v5_0]), (6, [v6_0])] = some (.agg [v0_0, v1_0, v2_0, v3_0, v4_0, v5_0, v6_0]) := by kernel_rfl
theorem sz141 : szT Tryz.prog 141 = some 7 := by kernel_rfl
theorem fa42_4 (k o : Nat) : fieldAddrV Tryz.prog 42 (.ptr k o) 4 = some (.ptr k (o + 12)) := by kernel_rfl
theorem ty4 : tyR Tryz.prog 4 = some (1, false) := by kernel_rfl
theorem fa40_0 (k o : Nat) : fieldAddrV Tryz.prog 40 (.ptr k o) 0 = some (.ptr k (o + 0)) := by kernel_rfl
theorem fa40_1 (k o : Nat) : fieldAddrV Tryz.prog 40 (.ptr k o) 1 = some (.ptr k (o + 1)) := by kernel_rfl
theorem fa40_2 (k o : Nat) : fieldAddrV Tryz.prog 40 (.ptr k o) 2 = some (.ptr k (o + 2)) := by kernel_rfl
theorem bu218_0_1_4 (v0_0 v1_0 v1_1 v1_2 v4_0 : V) : buildV Tryz.prog 218 [(0, [v0_0]), (1, [v1_0, v1_1, v1_2]), (4, [v4_0])] = some (.agg [v0_0, v1_0, v1_1, v1_2, .int .i64 0, .int .i64 0, v4_0, .nilslice, .bool false, .bool false, .nilslice]) := by kernel_rfl
theorem fa38_2 (k o : Nat) : fieldAddrV Tryz.prog 38 (.ptr k o) 2 = some (.ptr k (o + 2)) := by kernel_rfl
theorem ia36 (k o n m : Nat) (kd : IntKind) (i : Int) : indexAddrV Tryz.prog 36 (.slice k o n m) (.int kd i) = if 0 ≤ i ∧ i < n then some (.ptr k (o + i.toNat * 1)) else none := indexAddr_slice (e := 9) (by kernel_rfl) (by kernel_rfl) k o n m kd i
theorem bs32_0 : buildSliceL Tryz.prog 32 0 [] = some ([], 34) := by kernel_rfl
theorem ap32 : apI Tryz.prog 32 = some (34, 5, 72) := by kernel_rfl
theorem bu249_0_1_2_4_8 (v0_0 v1_0 v2_0 v2_1 v2_2 v2_3 v2_4 v2_5 v2_6 v4_0 v8_0 : V) : buildV Tryz.prog 249 [(0, [v0_0]), (1, [v1_0]), (2, [v2_0, v2_1, v2_2, v2_3, v2_4, v2_5, v2_6]), (4, [v4_0]), (8, [v8_0])] = some (.agg [v0_0, v1_0, v2_0, v2_1, v2_2, v2_3, v2_4, v2_5, v2_6, .int .i64 0, v4_0, .int .u32 0, .str [], .str [], .str [], .str [], .bool false, .str [], v8_0]) := by kernel_rfl
theorem fa34_1 (k o : Nat) : fieldAddrV Tryz.prog 34 (.ptr k o) 1 = some (.ptr k (o + 1)) := by kernel_rfl
theorem fa34_3 (k o : Nat) : fieldAddrV Tryz.prog 34 (.ptr k o) 3 = some (.ptr k (o + 3)) := by kernel_rfl
theorem fa34_2 (k o : Nat) : fieldAddrV Tryz.prog 34 (.ptr k o) 2 = some (.ptr k (o + 2)) := by kernel_rfl
theorem fa141_0 (k o : Nat) : fieldAddrV Tryz.prog 141 (.ptr k o) 0 = some (.ptr k (o + 0)) := by kernel_rfl
theorem fa141_1 (k o : Nat) : fieldAddrV Tryz.prog 141 (.ptr k o) 1 = some (.ptr k (o + 1)) := by kernel_rfl
theorem ty85 : tyR Tryz.prog 85 = some (1, false) := by kernel_rfl
theorem fa141_4 (k o : Nat) : fieldAddrV Tryz.prog 141 (.ptr k o) 4 = some (.ptr k (o + 4)) := by kernel_rfl
theorem fa141_5 (k o : Nat) : fieldAddrV Tryz.prog 141 (.ptr k o) 5 = some (.ptr k (o + 5)) := by kernel_rfl
theorem ty139 : tyR Tryz.prog 139 = some (1, false) := by kernel_rfl
theorem fa141_6 (k o : Nat) : fieldAddrV Tryz.prog 141 (.ptr k o) 6 = some (.ptr k (o + 6)) := by kernel_rfl
theorem bs36_2 (v0_0 v1_0 : V) : buildSliceL Tryz.prog 36 2 [(0, [v0_0]), (1, [v1_0])] = some ([v0_0, v1_0], 9) := by kernel_rfl
noncomputable def factsT := And.intro @Tryz.underlying3 <| And.intro @Tryz.underlying4 <| And.intro @Tryz.underlying5 <| And.intro @Tryz.underlying9 <| And.intro @Tryz.underlying25 <| And.intro @Tryz.underlying27 <| And.intro @Tryz.underlying32 <| And.intro @Tryz.underlying34 <| And.intro @Tryz.underlying35 <| And.intro @Tryz.underlying36 <| And.intro @Tryz.underlying38 <| And.intro @Tryz.underlying40 <| And.intro @Tryz.underlying42 <| And.intro @Tryz.underlying44 <| And.intro @Tryz.underlying85 <| And.intro @Tryz.underlying86 <| And.intro @Tryz.underlying96 <| And.intro @Tryz.underlying136 <| And.intro @Tryz.underlying139 <| And.intro @Tryz.underlying141 <| And.intro @Tryz.underlying147 <| And.intro @Tryz.underlying223 <| And.intro @Tryz.underlying241 <| And.intro @ty42 <| And.intro @by27 <| And.intro @el27 <| And.intro @ia27 <| And.intro @sz5 <| And.intro @bs27_1 <| And.intro @ap27 <| And.intro @ia136 <| And.intro @fa29_5 <| And.intro @ty27 <| And.intro @fa42_0 <| And.intro @ty32 <| And.intro @fa42_2 <| And.intro @fa38_1 <| And.intro @ty36 <| And.intro @fa42_7 <| And.intro @ty9 <| And.intro @fa42_1 <| And.intro @ty34 <| And.intro @bs32_1 <| And.intro @fa42_3 <| And.intro @ty40 <| And.intro @ty38 <| And.intro @fa42_5 <| And.intro @ty3 <| And.intro @fa42_6 <| And.intro @bs27_0 <| And.intro @ty5 <| And.intro @ia32 <| And.intro @ze34 <| And.intro @sz34 <| And.intro @fa34_0 <| And.intro @ty141 <| And.intro @fa141_3 <| And.intro @ty86 <| And.intro @fa141_2 <| And.intro @sz27 <| And.intro @bu226_0_1_2_3 <| And.intro @fa226_5 <| And.intro @sz224 <| And.intro @ze141 <| And.intro @bu141_0_1_2_3_4_5_6 <| And.intro @sz141 <| And.intro @fa42_4 <| And.intro @ty4 <| And.intro @fa40_0 <| And.intro @fa40_1 <| And.intro @fa40_2 <| And.intro @bu218_0_1_4 <| And.intro @fa38_2 <| And.intro @ia36 <| And.intro @bs32_0 <| And.intro @ap32 <| And.intro @bu249_0_1_2_4_8 <| And.intro @fa34_1 <| And.intro @fa34_3 <| And.intro @fa34_2 <| And.intro @fa141_0 <| And.intro @fa141_1 <| And.intro @ty85 <| And.intro @fa141_4 <| And.intro @fa141_5 <| And.intro @ty139 <| And.intro @fa141_6 <| @bs36_2

end
end Go.Proofs.YthhdkonpejmgcaaGreatDoor

/-
  The setting of ProxyPure; bytes looked into, copied, appended; numbers mixed.
-/
set_option linter.unusedSimpArgs false
set_option linter.unusedVariables false
set_option linter.unusedSectionVars false
set_option linter.defProp false
set_option maxRecDepth 20000
set_option maxHeartbeats 2000000
namespace Go.Proofs.YthhdkonpejmgcaaGreatDoor
open Go.Proofs Go.Lx Go.Wx Go.IntWalk
noncomputable section
structure Set0 where
  exts : List (FuncId × (List V → M V))
noncomputable def Set0.cfg (S : Set0) : Cfg := { P := Tryz.prog, lf := 0, gl := .leaf, sum := sums S.exts }
structure StdU (S : Set0) : Prop where
  own : ∀ f, f ∈ [21, 22, 23, 24, 25, 26, 31, 54, 56, 57, 58, 59, 60, 61, 62, 63, 64, 65, 66, 67, 68, 69, 70, 71, 72, 74, 75, 116, 117, 119, 120, 121, 122, 123, 124, 125, 126, 136, 182, 183, 184, 185, 186, 193, 194, 195, 196, 197, 198, 199, 200, 279, 280, 281, 292, 293, 294, 295, 296, 300, 367, 436] → sums S.exts f = none
  bidx : sums S.exts 370 = some idxM
  sidx : sums S.exts 524 = some (pureM idxStr)
theorem cfgP (S : Set0) : S.cfg.P = Tryz.prog := rfl
section
variable {c : Cfg} {Ok : Nat → Prop} {env : Env} {h : H} {K : V → H → Fp → Prop}
theorem gOp_no {op : Op} : gOp c Ok False op env h K = K undefV h (.lg []) := by unfold gOp; simp
theorem gOp_yes {op : Op} : gOp c Ok True op env h K = opW c Ok op env h K := by unfold gOp; simp
end
noncomputable def facts := And.intro @cfgP <| And.intro @factsT <| And.intro @gOp_no @gOp_yes
theorem ubs : Tryz.prog.underlying 27 = some (.slice 5) := by kernel_rfl
theorem tx27 : ∃ d, Tryz.prog.underlying 27 = some d ∧ isIntD d = false := ⟨.slice 5, by kernel_rfl, rfl⟩
theorem tx9 : ∃ d, Tryz.prog.underlying 9 = some d ∧ isIntD d = false := ⟨.string, by kernel_rfl, rfl⟩
abbrev LB (n0 : Nat) (h : H) (v : V) (l : List Nat) : Prop := Lst n0 h v (bytesV l) 5 1
theorem bytesV_app (a b : List Nat) : bytesV (a ++ b) = bytesV a ++ bytesV b := by simp [bytesV]
theorem bytesV_all (l : List Nat) : (bytesV l).all V.isCell = true := by simp [bytesV, V.isCell]
theorem LB.acc {n0 : Nat} {h : H} {v : V} {l : List Nat} (a : LB n0 h v l) (hl : l ≠ []) : Wx.Acc n0 h v (bytesV l) 5 1 := by
  rcases a with q | ⟨q, _⟩
  · exact q
  · cases l with
    | nil => exact absurd rfl hl
    | cons x l => simp [bytesV] at q
theorem LB.bs {n0 : Nat} {h : H} {v : V} {l : List Nat} (a : LB n0 h v l) (hb : ∀ x ∈ l, x < 256) : BS 5 h v l := BS.of_lst hb a
theorem LB.mono {n0 n1 : Nat} {h : H} {v : V} {l : List Nat} (a : LB n1 h v l) (hn : n0 ≤ n1) : LB n0 h v l := by
  rcases a with q | ⟨q1, b, q2, q3, q4, q5⟩
  · exact .inl (q.mono hn)
  · exact .inr ⟨q1, b, Nat.le_trans hn q2, q3, q4, q5⟩
section
variable {c : Cfg} {Ok : Nat → Prop} {env : Env} {h1 : H} {K : V → H → Fp → Prop}
theorem app_row {s x : Operand} {n0 n : Nat} {l cs : List Nat} {sv : V} {ob : Ob} {t tx : TypeId} (hap : apI c.P t = some (5, 1, 1)) (htx : ∃ d, c.P.underlying tx = some d ∧ isIntD d = false) (hsv : evalE env s = sv) (hxv : evalE env x = .slice h1.nx 0 n n) (hob : ob = .cells (bytesV cs) 5 false) (hn : cs.length = n) (hs : LB n0 h1 sv l) (hl : l.length + n ≤ 1073741824)
    (hOk : ∀ k, n0 ≤ k → Ok k) (hn0 : n0 ≤ h1.nx)
    (hK : ∀ v h' L, LB n0 h' v (l ++ cs) → h1.nx + 1 ≤ h'.nx → (∀ k, k < n0 → h'.get k = h1.get k) → (∀ le ∈ L, h1.nx ≤ blkOf le ∨ ∃ o n m, sv = .slice (blkOf le) o n m) → K v h' (.lg L)) : opW c Ok (.call ⟨.builtin .append, #[s, x], #[t, tx]⟩) env (h1.push ob) K := by
  subst hob
  subst hn
  refine append_lst (n0 := n0) (sv := sv) (xv := .slice h1.nx 0 cs.length cs.length) (cells := bytesV l) (new := bytesV cs) hsv hxv hap htx (hs.ext ((Ext.refl h1).push _)) (.inr ⟨h1.nx, 0, cs.length, cs.length, rfl, Nat.lt_succ_self _, by rw [push_eq rfl]; exact rdC_all (by rw [bytesV_length, Nat.mul_one]), by rw [bytesV_length, Nat.mul_one]⟩) (bytesV_all _) ?_ (by decide) hOk (by show n0 ≤ h1.nx + 1; omega) ?_
  · rw [bytesV_length, bytesV_length]
    exact hl
  intro v h' L hl' hn' _ hk' hL
  rw [← bytesV_app] at hl'
  refine hK v h' L hl' hn' (fun k hk => by rw [hk' k hk, push_ne (by omega)]) fun le hle => ?_
  rcases hL le hle with ⟨⟨o, n, m, e⟩, _⟩ | ⟨e, _⟩ | e
  · injection e with e1; exact .inl (by omega)
  · exact .inl (by have : h1.nx + 1 ≤ blkOf le := e; omega)
  · exact .inr e
theorem app_one {s x : Operand} {n0 cc : Nat} {l : List Nat} {sv : V} {ob : Ob} {t tx : TypeId} (hap : apI c.P t = some (5, 1, 1)) (htx : ∃ d, c.P.underlying tx = some d ∧ isIntD d = false) (hsv : evalE env s = sv) (hxv : evalE env x = .slice h1.nx 0 1 1) (hob : ob = .cells [.int .u8 (cc : Int)] 5 false) (hs : LB n0 h1 sv l) (hl : l.length < 2 ^ 29)
    (hOk : ∀ k, n0 ≤ k → Ok k) (hn0 : n0 ≤ h1.nx)
    (hK : ∀ v h' L, LB n0 h' v (l ++ [cc]) → h1.nx + 1 ≤ h'.nx → (∀ k, k < n0 → h'.get k = h1.get k) → (∀ le ∈ L, h1.nx ≤ blkOf le ∨ ∃ o n m, sv = .slice (blkOf le) o n m) → K v h' (.lg L)) : opW c Ok (.call ⟨.builtin .append, #[s, x], #[t, tx]⟩) env (h1.push ob) K :=
  app_row hap htx hsv hxv (cs := [cc]) hob rfl hs (by omega) hOk hn0 hK
end
theorem cl_rd0 {n0 n1 k o m : Nat} (h1 : k < n0) : fpApart (.cl n0 n1 nil1) (.lg [.rd k o m]) := fun e he => .inr (by rw [List.mem_singleton.1 he]; exact ⟨rfl, h1, fun q => q.elim⟩)
theorem cl_wrd0 {n0 n1 k : Nat} (h1 : n1 ≤ k) : fpApart (.cl n0 n1 nil1) (.lg [.wrd k]) := fun e he => .inl (by rw [List.mem_singleton.1 he]; exact h1)
def leB (x : Int) : Nat → List Nat
  | 0 => []
  | n + 1 => leB x n ++ [(x / 256 ^ n % 256).toNat]
theorem leB_len (x : Int) : ∀ n, (leB x n).length = n
  | 0 => rfl
  | n + 1 => by unfold leB; rw [List.length_append, leB_len x n]; rfl
theorem leB_ok (x : Int) : ∀ n, ∀ b ∈ leB x n, b < 256
  | 0, b, h => by cases h
  | n + 1, b, h => by
    unfold leB at h
    rcases List.mem_append.1 h with h | h
    · exact leB_ok x n b h
    · rw [List.mem_singleton] at h
      omega
theorem leB_get (x : Int) : ∀ (n i : Nat) (hi : i < n), (leB x n)[i]'(by rw [leB_len]; exact hi) = (x / 256 ^ i % 256).toNat
  | 0, i, hi => by cases hi
  | n + 1, i, hi => by
    unfold leB
    by_cases h : i < n
    · rw [List.getElem_append_left (by rw [leB_len]; exact h)]
      exact leB_get x n i h
    · obtain rfl : i = n := by omega
      rw [List.getElem_append_right (by rw [leB_len]; exact Nat.le_refl _)]
      simp [leB_len]
theorem iShr_pow {x : Int} {i : Nat} (hi : i ≤ 7) : iShr .u64 x (8 * (i : Int)) = x / 256 ^ i := by
  unfold iShr
  have e : (2 : Int) ^ (min (8 * (i : Int)).toNat IntKind.u64.bits) = 256 ^ i := by
    have : IntKind.u64.bits = 64 := rfl
    rw [this, Nat.min_eq_left (by omega), show (8 * (i : Int)).toNat = 8 * i by omega, Int.pow_mul]
    rfl
  rw [e, Int.fdiv_eq_ediv_of_nonneg _ (Int.pow_nonneg (by decide))]
theorem leB_at (x : Int) (n i : Nat) (hn : n ≤ 8) (hi : i < n) : IntKind.u8.wrap (iShr .u64 x (8 * (i : Int))) = (((leB x n)[i]'(by rw [leB_len]; exact hi) : Nat) : Int) := by
  rw [iShr_pow (by omega), leB_get x n i hi, IntKind.wrap_u8]
  omega
theorem getD_at {s : List Nat} {i : Nat} (h : i < s.length) : s.getD i 0 = s[i] := by rw [List.getD_eq_getElem?_getD, List.getElem?_eq_getElem h]; rfl
def mix1 (z : Int) (k : Int) (m : Int) : Int := IntKind.u64.wrap (iXor .u64 z (iShr .u64 z k) * m)
def mixF (x y : Int) : Int :=
  let z := mix1 (mix1 (iXor .u64 x (IntKind.u64.wrap (y + 11400714819323198485))) 30 13787848793156543929) 27 10723151780598845931
  iXor .u64 z (iShr .u64 z 31)
theorem nice_idxM (vs : List V) : Nice (idxM vs) := by
  unfold idxM
  repeat' (first | exact Nice.ret _ | exact Nice.err _ | exact Nice.ld _ _ _ | exact Nice.opt _ _ | refine Nice.cond ?_ ?_ | refine Nice.bnd ?_ (fun _ => ?_) | split)
theorem bytesOfV_bytes : ∀ {l : List Nat}, (∀ x ∈ l, x < 256) → bytesOfV (bytesV l) = some l
  | [], _ => rfl
  | x :: l, h => by
    have ih := bytesOfV_bytes (l := l) fun y hy => h y (.tail _ hy)
    have hx := h x (.head _)
    show (match byteV (.int .u8 (x : Nat)), bytesOfV (bytesV l) with
      | some n, some ns => some (n :: ns)
      | _, _ => none) = _
    have e : byteV (.int .u8 (x : Nat)) = some x := by
      have q : (x : Int) < 256 := by omega
      simp [byteV, q]
    rw [ih, e]
theorem nice_pureM (F : List V → Option V) (vs : List V) : Nice (pureM F vs) := by
  unfold pureM
  cases F vs with
  | none => exact Nice.err _
  | some v => exact Nice.ret _
theorem sum_exact {S : Set0} {f : FuncId} {F : List V → Option V} {args : List V} {h : H} {v : V} (hs : sums S.exts f = some (pureM F)) (hv : F args = some v) : Exact S.cfg f args h v := by
  refine callW_sum (s := h.st) hs (nice_pureM _ _) ?_ LogOk_nil ⟨rfl, rfl⟩
  unfold pureM
  rw [hv]
  rfl
theorem nil_bs {lv : V} (hv : lv = .nilslice ∨ ∃ b o n m, lv = .slice b o n m) : binV Tryz.prog .eql 27 (constO (.tmp 3) || constO (.const (Value.slice none 0 0))) lv .nilslice = some (bo (lv = .nilslice)) := by
  rcases hv with rfl | ⟨b, o, n, m, rfl⟩
  · have e : binV Tryz.prog .eql 27 (constO (.tmp 3) || constO (.const (Value.slice none 0 0))) .nilslice .nilslice = some (.bool true) := by kernel_rfl
    rw [e]; simp [bo]
  · have e : binV Tryz.prog .eql 27 (constO (.tmp 3) || constO (.const (Value.slice none 0 0))) (.slice b o n m) .nilslice = some (.bool false) := by kernel_rfl
    rw [e]; simp [bo]
theorem isCell_bytes (l : List Nat) : (bytesV l).all V.isCell = true := by simp [bytesV, V.isCell]
theorem _root_.Go.Wx.Lst.off {n0 : Nat} {h : H} {v : V} {cells : List V} {e sz : Nat} (a : Lst n0 h v cells e sz) : ∀ k, k < n0 → Off v k := fun k hk o n m q => by
  rcases a with a | ⟨_, b, h0, h1, q2, _⟩
  · exact a.ne hk q
  · rw [q2] at q; cases q; omega
variable {S : Set0} (hS : StdU S)
include hS
theorem mix_spec (x y : Int) (h : H) : Exact S.cfg 56 [.int .u64 x, .int .u64 y] h (.int .u64 (mixF x y)) := by
  refine into Tryz.f56 _ Tryz.func56 (hS.own _ (by decide)) rfl rfl (by kernel_rfl) (by kernel_rfl) ?_
  simp +contextual (disch := first | (simp only [facts, clsL, clsS, clsC, isPtrD]; done) | omega | (simp only [push_nx, put_nx, del_nx]; omega) | (refine Nat.le_antisymm ?_ ?_ <;> simp only [push_nx, put_nx, del_nx] <;> omega) | fail) only [wpy, facts, wpb, cst, wpk, wpl, forall_const, implies_true, false_implies, Int.reduceLE, Int.reduceLT, Nat.reduceLeDiff, UInt8.reduceToNat, ↓reduceIte, Nat.reduceEqDiff, Nat.reduceAdd, reduceCtorEq, Int.reduceToNat, clsL, clsS, clsC, Tryz.f56]
  first | exact ⟨rfl, rfl⟩ | rfl
theorem rmix_spec (x y : Int) (h : H) : Exact S.cfg 58 [.int .u64 x, .int .u64 y] h (.int .u64 (mixF x y)) := by
  refine into Tryz.f58 _ Tryz.func58 (hS.own _ (by decide)) rfl rfl (by kernel_rfl) (by kernel_rfl) ?_
  simp +contextual (disch := first | (simp only [facts, clsL, clsS, clsC, isPtrD]; done) | omega | (simp only [push_nx, put_nx, del_nx]; omega) | (refine Nat.le_antisymm ?_ ?_ <;> simp only [push_nx, put_nx, del_nx] <;> omega) | fail) only [wpy, facts, wpb, cst, wpk, wpl, forall_const, implies_true, false_implies, Int.reduceLE, Int.reduceLT, Nat.reduceLeDiff, UInt8.reduceToNat, ↓reduceIte, Nat.reduceEqDiff, Nat.reduceAdd, reduceCtorEq, Int.reduceToNat, clsL, clsS, clsC, Tryz.f58]
  first | exact ⟨rfl, rfl⟩ | rfl
theorem aidx_spec {v : V} {l : List Nat} {h : H} (a : BS 5 h v l) (c : Int) (hc : 0 ≤ c ∧ c < 256) : Exact S.cfg 370 [v, .int .u8 c] h (.int .i64 (idxNats l c.toNat)) := by
  rcases a.2 with ⟨rfl, rfl⟩ | ⟨b, o, m, rfl, h1, h2, h3, h4⟩
  · exact callW_sum (s := h.st) hS.bidx (nice_idxM _) rfl LogOk_nil ⟨rfl, rfl⟩
  · refine callW_sum (s := ⟨h.heap, h.nx, [.rd b o l.length]⟩) hS.bidx (nice_idxM _) ?_ ?_ ⟨rfl, rfl⟩
    · show (bif decide (0 ≤ c) && decide (c < 256) then Lx.bnd (Lx.ld b o l.length) fun cs => Lx.bnd (Lx.opt (bytesOfV cs) "bytes") fun ns => Lx.ret (V.int .i64 (idxNats ns c.toNat)) else err "byte") ⟨h.heap, h.nx, []⟩ = _
      rw [show (decide (0 ≤ c) && decide (c < 256)) = true by simp [hc], cond_true, bnd_eq (ld_rdC (s := ⟨h.heap, h.nx, []⟩) h3), bytesOfV_bytes a.1]
      rfl
    · rw [LogOk_cons_rd]
      exact LogOk_nil
theorem bidx_spec {v : V} {l : List Nat} {h : H} (a : BS 5 h v l) (c : Int) (hc : 0 ≤ c ∧ c < 256) : Exact S.cfg 300 [v, .int .u8 c] h (.int .i64 (idxNats l c.toNat)) := by
  refine into Tryz.f300 _ Tryz.func300 (hS.own _ (by decide)) rfl rfl (by kernel_rfl) (by kernel_rfl) ?_
  simp +contextual (disch := first | (simp only [facts, clsL, clsS, clsC, isPtrD]; done) | omega | (simp only [push_nx, put_nx, del_nx]; omega) | (refine Nat.le_antisymm ?_ ?_ <;> simp only [push_nx, put_nx, del_nx] <;> omega) | fail) only [wpy, facts, wpb, cst, wpk, wpl, forall_const, implies_true, false_implies, Int.reduceLE, Int.reduceLT, Nat.reduceLeDiff, UInt8.reduceToNat, ↓reduceIte, Nat.reduceEqDiff, Nat.reduceAdd, reduceCtorEq, Int.reduceToNat, clsL, clsS, clsC, Tryz.f300]
  refine callF_exact (aidx_spec hS a c hc) ?_
  simp +contextual (disch := first | (simp only [facts, clsL, clsS, clsC, isPtrD]; done) | omega | (simp only [push_nx, put_nx, del_nx]; omega) | (refine Nat.le_antisymm ?_ ?_ <;> simp only [push_nx, put_nx, del_nx] <;> omega) | fail) only [wpy, facts, wpb, cst, wpk, wpl, forall_const, implies_true, false_implies, Int.reduceLE, Int.reduceLT, Nat.reduceLeDiff, UInt8.reduceToNat, ↓reduceIte, Nat.reduceEqDiff, Nat.reduceAdd, reduceCtorEq, Int.reduceToNat, clsL, clsS, clsC, Tryz.f300]
theorem lidx_spec (s : List Nat) (b : Nat) (hb : b < 256) (h : H) : Exact S.cfg 436 [.str s, .int .u8 b] h (.int .i64 (idxNats s b)) := by
  refine into Tryz.f436 _ Tryz.func436 (hS.own _ (by decide)) rfl rfl (by kernel_rfl) (by kernel_rfl) ?_
  simp +contextual (disch := first | (simp only [facts, clsL, clsS, clsC, isPtrD]; done) | omega | (simp only [push_nx, put_nx, del_nx]; omega) | (refine Nat.le_antisymm ?_ ?_ <;> simp only [push_nx, put_nx, del_nx] <;> omega) | fail) only [wpy, facts, wpb, cst, wpk, wpl, forall_const, implies_true, false_implies, Int.reduceLE, Int.reduceLT, Nat.reduceLeDiff, UInt8.reduceToNat, ↓reduceIte, Nat.reduceEqDiff, Nat.reduceAdd, reduceCtorEq, Int.reduceToNat, clsL, clsS, clsC, Tryz.f436]
  refine callF_exact (sum_exact hS.sidx (v := .int .i64 (idxNats s b)) ?_) ?_
  · have : (b : Int) < 256 := by omega
    simp [idxStr, this]
  · simp +contextual (disch := first | (simp only [facts, clsL, clsS, clsC, isPtrD]; done) | omega | (simp only [push_nx, put_nx, del_nx]; omega) | (refine Nat.le_antisymm ?_ ?_ <;> simp only [push_nx, put_nx, del_nx] <;> omega) | fail) only [wpy, facts, wpb, cst, wpk, wpl, forall_const, implies_true, false_implies, Int.reduceLE, Int.reduceLT, Nat.reduceLeDiff, UInt8.reduceToNat, ↓reduceIte, Nat.reduceEqDiff, Nat.reduceAdd, reduceCtorEq, Int.reduceToNat, clsL, clsS, clsC, Tryz.f436]
theorem sidx_spec (s : List Nat) (b : Nat) (hb : b < 256) (h : H) : Exact S.cfg 367 [.str s, .int .u8 b] h (.int .i64 (idxNats s b)) := by
  refine into Tryz.f367 _ Tryz.func367 (hS.own _ (by decide)) rfl rfl (by kernel_rfl) (by kernel_rfl) ?_
  simp +contextual (disch := first | (simp only [facts, clsL, clsS, clsC, isPtrD]; done) | omega | (simp only [push_nx, put_nx, del_nx]; omega) | (refine Nat.le_antisymm ?_ ?_ <;> simp only [push_nx, put_nx, del_nx] <;> omega) | fail) only [wpy, facts, wpb, cst, wpk, wpl, forall_const, implies_true, false_implies, Int.reduceLE, Int.reduceLT, Nat.reduceLeDiff, UInt8.reduceToNat, ↓reduceIte, Nat.reduceEqDiff, Nat.reduceAdd, reduceCtorEq, Int.reduceToNat, clsL, clsS, clsC, Tryz.f367]
  refine callF_exact (lidx_spec hS s b hb h) ?_
  simp +contextual (disch := first | (simp only [facts, clsL, clsS, clsC, isPtrD]; done) | omega | (simp only [push_nx, put_nx, del_nx]; omega) | (refine Nat.le_antisymm ?_ ?_ <;> simp only [push_nx, put_nx, del_nx] <;> omega) | fail) only [wpy, facts, wpb, cst, wpk, wpl, forall_const, implies_true, false_implies, Int.reduceLE, Int.reduceLT, Nat.reduceLeDiff, UInt8.reduceToNat, ↓reduceIte, Nat.reduceEqDiff, Nat.reduceAdd, reduceCtorEq, Int.reduceToNat, clsL, clsS, clsC, Tryz.f367]
theorem bclone_spec {v : V} {l : List Nat} {h : H} (a : BS 5 h v l) (hl : l.length < 2 ^ 28) : Pure S.cfg 184 [v] h fun w h' => Lst h.nx h' w (bytesV l) 5 1 := by
  refine into Tryz.f184 _ Tryz.func184 (hS.own _ (by decide)) rfl rfl (by kernel_rfl) (by kernel_rfl) ?_
  have hn : binV Tryz.prog .eql 27 (constO (.tmp 3) || constO (.const (Value.slice none 0 0))) v .nilslice = some (bo (v = .nilslice)) := nil_bs (by
    rcases a.form with ⟨rfl, rfl⟩ | ⟨b, o, m, rfl⟩
    · exact .inl rfl
    · exact .inr ⟨_, _, _, _, rfl⟩)
  by_cases h0 : v = .nilslice
  · have hls : l = [] := by
      rcases a.form with ⟨_, q⟩ | ⟨b, o, m, q⟩
      · exact q
      · rw [h0] at q; cases q
    subst h0
    subst hls
    simp +contextual (disch := first | (simp only [facts, clsL, clsS, clsC, isPtrD]; done) | omega | (simp only [push_nx, put_nx, del_nx]; omega) | (refine Nat.le_antisymm ?_ ?_ <;> simp only [push_nx, put_nx, del_nx] <;> omega) | fail) only [wpy, facts, wpb, cst, wpk, wpl, forall_const, implies_true, false_implies, Int.reduceLE, Int.reduceLT, Nat.reduceLeDiff, UInt8.reduceToNat, ↓reduceIte, Nat.reduceEqDiff, Nat.reduceAdd, reduceCtorEq, Int.reduceToNat, clsL, clsS, clsC, Tryz.f184, hn]
    exact ⟨Ext.refl h, .inl (.inl ⟨rfl, rfl⟩)⟩
  · simp +contextual (disch := first | (simp only [facts, clsL, clsS, clsC, isPtrD]; done) | omega | (simp only [push_nx, put_nx, del_nx]; omega) | (refine Nat.le_antisymm ?_ ?_ <;> simp only [push_nx, put_nx, del_nx] <;> omega) | fail) only [wpy, facts, wpb, cst, wpk, wpl, forall_const, implies_true, false_implies, Int.reduceLE, Int.reduceLT, Nat.reduceLeDiff, UInt8.reduceToNat, ↓reduceIte, Nat.reduceEqDiff, Nat.reduceAdd, reduceCtorEq, Int.reduceToNat, clsL, clsS, clsC, Tryz.f184, hn, h0]
    generalize hhA : h.push (Ob.cells [] 5 false) = hA
    have hxA : Ext h hA := by rw [← hhA]; exact (Ext.refl h).push _
    have hgA : hA.get h.nx = some (.cells [] 5 false) := by rw [← hhA]; exact push_eq rfl
    have hnA : hA.nx = h.nx + 1 := by rw [← hhA]; rfl
    clear hhA
    refine append_lst (n0 := h.nx) (sv := .slice h.nx 0 0 0) (xv := v) (cells := []) (new := bytesV l) ?_ ?_ ap27 ⟨.slice 5, by kernel_rfl, rfl⟩ (.inr ⟨rfl, h.nx, Nat.le_refl _, by omega, rfl, hgA⟩) (a.ext hxA).src (isCell_bytes _) ?_ (by decide) (fun k hk => by rw [fresh_def]; exact .inl hk) (by omega) ?_
    · simp +contextual (disch := first | (simp only [facts, clsL, clsS, clsC, isPtrD]; done) | omega | (simp only [push_nx, put_nx, del_nx]; omega) | (refine Nat.le_antisymm ?_ ?_ <;> simp only [push_nx, put_nx, del_nx] <;> omega) | fail) only [wpy, facts, wpb, cst, wpk, wpl, forall_const, implies_true, false_implies, Int.reduceLE, Int.reduceLT, Nat.reduceLeDiff, UInt8.reduceToNat, ↓reduceIte, Nat.reduceEqDiff, Nat.reduceAdd, reduceCtorEq, Int.reduceToNat, clsL, clsS, clsC]
    · simp +contextual (disch := first | (simp only [facts, clsL, clsS, clsC, isPtrD]; done) | omega | (simp only [push_nx, put_nx, del_nx]; omega) | (refine Nat.le_antisymm ?_ ?_ <;> simp only [push_nx, put_nx, del_nx] <;> omega) | fail) only [wpy, facts, wpb, cst, wpk, wpl, forall_const, implies_true, false_implies, Int.reduceLE, Int.reduceLT, Nat.reduceLeDiff, UInt8.reduceToNat, ↓reduceIte, Nat.reduceEqDiff, Nat.reduceAdd, reduceCtorEq, Int.reduceToNat, clsL, clsS, clsC]
    · rw [bytesV_length]; simp only [List.length_nil]; omega
    intro w h1 L hl1 hn1 hk1 hf1 hL1
    simp +contextual (disch := first | (simp only [facts, clsL, clsS, clsC, isPtrD]; done) | omega | (simp only [push_nx, put_nx, del_nx]; omega) | (refine Nat.le_antisymm ?_ ?_ <;> simp only [push_nx, put_nx, del_nx] <;> omega) | fail) only [wpy, facts, wpb, cst, wpk, wpl, forall_const, implies_true, false_implies, Int.reduceLE, Int.reduceLT, Nat.reduceLeDiff, UInt8.reduceToNat, ↓reduceIte, Nat.reduceEqDiff, Nat.reduceAdd, reduceCtorEq, Int.reduceToNat, clsL, clsS, clsC, Tryz.f184]
    exact ⟨⟨by omega, fun k hk => by rw [hf1 k hk, hxA.2 k hk]⟩, hl1⟩
theorem sclone_spec {v : V} {l : List Nat} {h : H} (a : BS 5 h v l) (hl : l.length < 2 ^ 28) : Pure S.cfg 54 [v] h fun w h' => Lst h.nx h' w (bytesV l) 5 1 := by
  refine into Tryz.f54 _ Tryz.func54 (hS.own _ (by decide)) rfl rfl (by kernel_rfl) (by kernel_rfl) ?_
  have hn : binV Tryz.prog .eql 27 (constO (.tmp 3) || constO (.const (Value.slice none 0 0))) v .nilslice = some (bo (v = .nilslice)) := nil_bs (by
    rcases a.form with ⟨rfl, rfl⟩ | ⟨b, o, m, rfl⟩
    · exact .inl rfl
    · exact .inr ⟨_, _, _, _, rfl⟩)
  by_cases h0 : v = .nilslice
  · have hls : l = [] := by
      rcases a.form with ⟨_, q⟩ | ⟨b, o, m, q⟩
      · exact q
      · rw [h0] at q; cases q
    subst h0
    subst hls
    simp +contextual (disch := first | (simp only [facts, clsL, clsS, clsC, isPtrD]; done) | omega | (simp only [push_nx, put_nx, del_nx]; omega) | (refine Nat.le_antisymm ?_ ?_ <;> simp only [push_nx, put_nx, del_nx] <;> omega) | fail) only [wpy, facts, wpb, cst, wpk, wpl, forall_const, implies_true, false_implies, Int.reduceLE, Int.reduceLT, Nat.reduceLeDiff, UInt8.reduceToNat, ↓reduceIte, Nat.reduceEqDiff, Nat.reduceAdd, reduceCtorEq, Int.reduceToNat, clsL, clsS, clsC, Tryz.f54, hn]
    exact ⟨Ext.refl h, .inl (.inl ⟨rfl, rfl⟩)⟩
  · simp +contextual (disch := first | (simp only [facts, clsL, clsS, clsC, isPtrD]; done) | omega | (simp only [push_nx, put_nx, del_nx]; omega) | (refine Nat.le_antisymm ?_ ?_ <;> simp only [push_nx, put_nx, del_nx] <;> omega) | fail) only [wpy, facts, wpb, cst, wpk, wpl, forall_const, implies_true, false_implies, Int.reduceLE, Int.reduceLT, Nat.reduceLeDiff, UInt8.reduceToNat, ↓reduceIte, Nat.reduceEqDiff, Nat.reduceAdd, reduceCtorEq, Int.reduceToNat, clsL, clsS, clsC, Tryz.f54, hn, h0]
    generalize hhA : h.push (Ob.cells [] 5 false) = hA
    have hxA : Ext h hA := by rw [← hhA]; exact (Ext.refl h).push _
    have hgA : hA.get h.nx = some (.cells [] 5 false) := by rw [← hhA]; exact push_eq rfl
    have hnA : hA.nx = h.nx + 1 := by rw [← hhA]; rfl
    clear hhA
    refine append_lst (n0 := h.nx) (sv := .slice h.nx 0 0 0) (xv := v) (cells := []) (new := bytesV l) ?_ ?_ ap27 ⟨.slice 5, by kernel_rfl, rfl⟩ (.inr ⟨rfl, h.nx, Nat.le_refl _, by omega, rfl, hgA⟩) (a.ext hxA).src (isCell_bytes _) ?_ (by decide) (fun k hk => by rw [fresh_def]; exact .inl hk) (by omega) ?_
    · simp +contextual (disch := first | (simp only [facts, clsL, clsS, clsC, isPtrD]; done) | omega | (simp only [push_nx, put_nx, del_nx]; omega) | (refine Nat.le_antisymm ?_ ?_ <;> simp only [push_nx, put_nx, del_nx] <;> omega) | fail) only [wpy, facts, wpb, cst, wpk, wpl, forall_const, implies_true, false_implies, Int.reduceLE, Int.reduceLT, Nat.reduceLeDiff, UInt8.reduceToNat, ↓reduceIte, Nat.reduceEqDiff, Nat.reduceAdd, reduceCtorEq, Int.reduceToNat, clsL, clsS, clsC]
    · simp +contextual (disch := first | (simp only [facts, clsL, clsS, clsC, isPtrD]; done) | omega | (simp only [push_nx, put_nx, del_nx]; omega) | (refine Nat.le_antisymm ?_ ?_ <;> simp only [push_nx, put_nx, del_nx] <;> omega) | fail) only [wpy, facts, wpb, cst, wpk, wpl, forall_const, implies_true, false_implies, Int.reduceLE, Int.reduceLT, Nat.reduceLeDiff, UInt8.reduceToNat, ↓reduceIte, Nat.reduceEqDiff, Nat.reduceAdd, reduceCtorEq, Int.reduceToNat, clsL, clsS, clsC]
    · rw [bytesV_length]; simp only [List.length_nil]; omega
    intro w h1 L hl1 hn1 hk1 hf1 hL1
    simp +contextual (disch := first | (simp only [facts, clsL, clsS, clsC, isPtrD]; done) | omega | (simp only [push_nx, put_nx, del_nx]; omega) | (refine Nat.le_antisymm ?_ ?_ <;> simp only [push_nx, put_nx, del_nx] <;> omega) | fail) only [wpy, facts, wpb, cst, wpk, wpl, forall_const, implies_true, false_implies, Int.reduceLE, Int.reduceLT, Nat.reduceLeDiff, UInt8.reduceToNat, ↓reduceIte, Nat.reduceEqDiff, Nat.reduceAdd, reduceCtorEq, Int.reduceToNat, clsL, clsS, clsC, Tryz.f54]
    exact ⟨⟨by omega, fun k hk => by rw [hf1 k hk, hxA.2 k hk]⟩, hl1⟩
end
end Go.Proofs.YthhdkonpejmgcaaGreatDoor

/-
  Nonces: out of draws, out of a number; two rows of bytes held against each other.
-/
set_option linter.unusedSimpArgs false
set_option linter.unusedVariables false
set_option linter.unusedSectionVars false
set_option linter.defProp false
set_option maxRecDepth 20000
set_option maxHeartbeats 2000000
namespace Go.Proofs.YthhdkonpejmgcaaGreatDoor
open Go.Proofs Go.Lx Go.Wx Go.IntWalk
noncomputable section

theorem idx_mem : ∀ (l : List Nat) (c : Nat), (idxNats l c = -1 ∨ 0 ≤ idxNats l c) ∧ (0 ≤ idxNats l c ↔ c ∈ l)
  | [], c => by simp [idxNats]
  | b :: l, c => by
    obtain ⟨h1, h2⟩ := idx_mem l c
    unfold idxNats
    by_cases hb : b = c
    · subst hb; simp
    · have hb' : ¬ c = b := fun e => hb e.symm
      rw [show (b == c) = false by simp [hb], cond_false]
      rcases h1 with h1 | h1
      · rw [h1]
        have : ¬ c ∈ l := fun q => by have := h2.2 q; omega
        simp [this, hb']
      · rw [show (idxNats l c == -1) = false by rw [beq_eq_false_iff_ne]; omega, cond_false]
        have := h2.1 h1
        simp [this]
        omega
def nonB (x : Nat) : Nat := if 36 ≤ x % 254 + 1 then x % 254 + 2 else x % 254 + 1
theorem nonB_ok (x : Nat) : 0 < nonB x ∧ nonB x < 256 ∧ nonB x ≠ 36 := by unfold nonB; split <;> omega
def NonceOk (l : List Nat) : Prop := l.length = 20 ∧ ∀ x ∈ l, 0 < x ∧ x < 256 ∧ x ≠ 36
theorem nonces_ok {l : List Nat} (h : l.length = 20) : NonceOk (l.map nonB) := ⟨by rw [List.length_map, h], fun x hx => by
  obtain ⟨y, _, rfl⟩ := List.mem_map.1 hx
  exact nonB_ok y⟩
def mB (x : Int) (i : Nat) : Nat := (IntKind.u8.wrap (mixF x i)).toNat
theorem mB_wrap (x : Int) (i : Nat) : IntKind.u8.wrap (mixF x i) = ((mB x i : Nat) : Int) := by
  unfold mB
  rw [IntKind.wrap_u8]
  omega
theorem mB_lt (x : Int) (i : Nat) : mB x i < 256 := by
  unfold mB
  rw [IntKind.wrap_u8]
  omega
def drawsF (x : Int) : List Nat := (List.range 20).map (mB x)
theorem drawsF_len (x : Int) : (drawsF x).length = 20 := by simp [drawsF]
theorem draws_lt (x : Int) (n : Nat) : ∀ b ∈ (List.range n).map (mB x), b < 256 := fun b hb => by
  obtain ⟨i, _, rfl⟩ := List.mem_map.1 hb
  exact mB_lt x i
def nonceF (x : Int) : List Nat := (drawsF x).map nonB
theorem nonceF_ok (x : Int) : NonceOk (nonceF x) := nonces_ok (drawsF_len x)
theorem put_draw {x : Int} {i : Nat} (hi : i < 20) : listPut (bytesV ((List.range i).map (mB x) ++ List.replicate (20 - i) 0)) i [V.int .u8 ((mB x i : Nat) : Int)] = bytesV ((List.range (i + 1)).map (mB x) ++ List.replicate (20 - (i + 1)) 0) := by
  have e : List.replicate (20 - i) 0 = 0 :: List.replicate (20 - (i + 1)) 0 := by
    rw [show 20 - i = (20 - (i + 1)) + 1 by omega]; rfl
  have key : ∀ (a : List V) (b : List V) (v w : V), listPut (a ++ v :: b) a.length [w] = a ++ w :: b := by
    intro a b v w
    induction a with
    | nil => exact congrArg (List.cons w) (listPut_nil b 0)
    | cons y a ih => exact congrArg (List.cons y) ih
  rw [e, bytesV_app, List.range_succ, List.map_append, List.append_assoc, bytesV_app]
  have k := key (bytesV ((List.range i).map (mB x))) (bytesV (List.replicate (20 - (i + 1)) 0)) (V.int .u8 0) (V.int .u8 ((mB x i : Nat) : Int))
  rw [bytesV_length, List.length_map, List.length_range] at k
  exact k
theorem take_map_succ {l : List Nat} {i : Nat} (hi : i < l.length) : (l.take (i + 1)).map nonB = (l.take i).map nonB ++ [nonB l[i]] := by
  rw [List.take_succ_eq_append_getElem hi, List.map_append]
  rfl
theorem tmodN (x : Nat) : ((x : Nat) : Int).tmod 254 = ((x % 254 : Nat) : Int) := rfl
theorem mk_bytes {S : Set0} {Ok : Nat → Prop} {env : Env} {h : H} {K : V → H → Fp → Prop} {x : Operand} {n : Nat} (hn : n ≤ 1000) (hx : evalE env x = .int .i64 n) (hK : K (.slice h.nx 0 n n) (h.push (.cells (bytesV (List.replicate n 0)) 5 false)) (.lg [.wrd h.nx])) : opW S.cfg Ok (.makeSlice 27 x x) env h K := by
  rw [opW_makeSlice, hx]
  obtain ⟨z, h0, h1, h2, h3, h4, h5⟩ := apI_inv (P := Tryz.prog) ap27
  have hz : zeroT Tryz.prog 5 = some (.int .u8 0) := by kernel_rfl
  have er : ∀ n, rep [V.int .u8 0] n = bytesV (List.replicate n 0) := fun n => by
    induction n with
    | zero => rfl
    | succ n ih => unfold rep; rw [ih]; rfl
  have e : opMakeSlice S.cfg.P 27 (.int .i64 (n : Nat)) (.int .i64 (n : Nat)) = (Lx.bnd (Lx.alloc (.cells (bytesV (List.replicate n 0)) 5 false)) fun k => Lx.ret (.slice k 0 n n)) := by
    show opMakeSlice Tryz.prog 27 (.int .i64 (.ofNat n)) (.int .i64 (.ofNat n)) = _
    unfold opMakeSlice
    rw [h0]
    simp only [h1, hz, h3]
    have hr : roomy n 1 = true := by
      exact roomy_of (by omega) rfl
    rw [← er]
    simp only [ble_iff.2 (Nat.le_refl n), hr, Bool.true_and]
    rfl
  rw [e, goL_alloc, goL_ret]
  refine ⟨?_, hK⟩
  rw [LogOk_cons_wrd]
  exact ⟨.inl (Nat.le_refl _), LogOk_nil⟩
variable {S : Set0} (hS : StdU S)
include hS
theorem nonce_spec {v : V} {l : List Nat} {h : H} (a : BS 5 h v l) (hl : l.length = 20) : Pure S.cfg 57 [v] h fun w h' => ∃ lv, w = .tuple [lv, .int .i64 0] ∧ LB h.nx h' lv (l.map nonB) := by
  refine into Tryz.f57 _ Tryz.func57 (hS.own _ (by decide)) rfl rfl (by kernel_rfl) (by kernel_rfl) ?_
  have a1 := a.len 5
  rw [hl] at a1
  simp +contextual (disch := first | (simp only [facts, clsL, clsS, clsC, isPtrD]; done) | omega | (simp only [push_nx, put_nx, del_nx]; omega) | (refine Nat.le_antisymm ?_ ?_ <;> simp only [push_nx, put_nx, del_nx] <;> omega) | fail) only [wpy, facts, wpb, cst, wpk, wpl, forall_const, implies_true, false_implies, Int.reduceLE, Int.reduceLT, Nat.reduceLeDiff, UInt8.reduceToNat, ↓reduceIte, Nat.reduceEqDiff, Nat.reduceAdd, reduceCtorEq, Int.reduceToNat, clsL, clsS, clsC, Tryz.f57, a1]
  refine run_loop (fun k env h' => ∃ i : Nat, k = 20 - i ∧ i ≤ 20 ∧ env 10 = v ∧ env 11 = .int .i64 20 ∧ env 12 = .int .i64 i ∧ Ext h h' ∧ ∃ lv, env 4 = lv ∧ LB h.nx h' lv ((l.take i).map nonB)) 20 ⟨0, ?_⟩ ?_
  · simp +contextual (disch := first | (simp only [facts, clsL, clsS, clsC, isPtrD]; done) | omega | (simp only [push_nx, put_nx, del_nx]; omega) | (refine Nat.le_antisymm ?_ ?_ <;> simp only [push_nx, put_nx, del_nx] <;> omega) | fail) only [wpy, facts, wpb, cst, wpk, wpl, forall_const, implies_true, false_implies, Int.reduceLE, Int.reduceLT, Nat.reduceLeDiff, UInt8.reduceToNat, ↓reduceIte, Nat.reduceEqDiff, Nat.reduceAdd, reduceCtorEq, Int.reduceToNat, clsL, clsS, clsC]
    exact ⟨Ext.refl h, _, rfl, .inl (.inl ⟨rfl, rfl⟩)⟩
  rintro k env h' ⟨i, rfl, hi, e10, e11, e12, hx, lv, e4, hlv⟩
  have n1 := hx.1
  by_cases hin : i < 20
  · have hil : i < l.length := by omega
    obtain ⟨b, o, m, rfl, _, hr⟩ := (a.ext hx).at hil
    rw [getD_at hil] at hr
    have hlt := a.1 _ (List.getElem_mem hil)
    have t1 := tmodN l[i]
    have t2 : IntKind.u8.wrap (((l[i] % 254 : Nat) : Int) + 1) = ((l[i] % 254 + 1 : Nat) : Int) := by rw [IntKind.wrap_u8]; omega
    have t3 : l[i] % 254 + 1 ≥ 36 → IntKind.u8.wrap (((l[i] % 254 + 1 : Nat) : Int) + 1) = ((l[i] % 254 + 2 : Nat) : Int) := fun q => by rw [IntKind.wrap_u8]; omega
    by_cases hq : 36 ≤ l[i] % 254 + 1
    · have hq' : (36 : Int) ≤ ((l[i] % 254 + 1 : Nat) : Int) := by omega
      have eb : nonB l[i] = l[i] % 254 + 2 := by unfold nonB; rw [if_pos hq]
      simp +contextual (disch := first | (simp only [facts, clsL, clsS, clsC, isPtrD]; done) | omega | (simp only [push_nx, put_nx, del_nx]; omega) | (refine Nat.le_antisymm ?_ ?_ <;> simp only [push_nx, put_nx, del_nx] <;> omega) | fail) only [wpy, facts, wpb, cst, wpk, wpl, forall_const, implies_true, false_implies, Int.reduceLE, Int.reduceLT, Nat.reduceLeDiff, UInt8.reduceToNat, ↓reduceIte, Nat.reduceEqDiff, Nat.reduceAdd, reduceCtorEq, Int.reduceToNat, clsL, clsS, clsC, Tryz.f57, e10, e11, e12, e4, hin, hil, hr, t1, t2, t3, hq', hq, Int.reduceEq]
      refine app_one (n0 := h.nx) (cc := l[i] % 254 + 2) ap27 tx27 (by simp +contextual (disch := first | (simp only [facts, clsL, clsS, clsC, isPtrD]; done) | omega | (simp only [push_nx, put_nx, del_nx]; omega) | (refine Nat.le_antisymm ?_ ?_ <;> simp only [push_nx, put_nx, del_nx] <;> omega) | fail) only [wpy, facts, wpb, cst, wpk, wpl, forall_const, implies_true, false_implies, Int.reduceLE, Int.reduceLT, Nat.reduceLeDiff, UInt8.reduceToNat, ↓reduceIte, Nat.reduceEqDiff, Nat.reduceAdd, reduceCtorEq, Int.reduceToNat, clsL, clsS, clsC, e4]) (by simp +contextual (disch := first | (simp only [facts, clsL, clsS, clsC, isPtrD]; done) | omega | (simp only [push_nx, put_nx, del_nx]; omega) | (refine Nat.le_antisymm ?_ ?_ <;> simp only [push_nx, put_nx, del_nx] <;> omega) | fail) only [wpy, facts, wpb, cst, wpk, wpl, forall_const, implies_true, false_implies, Int.reduceLE, Int.reduceLT, Nat.reduceLeDiff, UInt8.reduceToNat, ↓reduceIte, Nat.reduceEqDiff, Nat.reduceAdd, reduceCtorEq, Int.reduceToNat, clsL, clsS, clsC]) rfl hlv ?_ (fun k hk => by rw [fresh_def]; exact .inl hk) (by omega) ?_
      · rw [List.length_map, List.length_take]; omega
      intro v2 h2 L2 hl2 hn2 hk2 hL2
      simp +contextual (disch := first | (simp only [facts, clsL, clsS, clsC, isPtrD]; done) | omega | (simp only [push_nx, put_nx, del_nx]; omega) | (refine Nat.le_antisymm ?_ ?_ <;> simp only [push_nx, put_nx, del_nx] <;> omega) | fail) only [wpy, facts, wpb, cst, wpk, wpl, forall_const, implies_true, false_implies, Int.reduceLE, Int.reduceLT, Nat.reduceLeDiff, UInt8.reduceToNat, ↓reduceIte, Nat.reduceEqDiff, Nat.reduceAdd, reduceCtorEq, Int.reduceToNat, clsL, clsS, clsC, Tryz.f57, e10, e11, e12]
      refine ⟨20 - (i + 1), by omega, i + 1, rfl, by omega, rfl, ⟨by omega, fun k hk => by rw [hk2 k hk, hx.2 k hk]⟩, ?_⟩
      rw [take_map_succ hil, eb]
      exact ⟨_, rfl, hl2⟩
    · have hq' : ¬ (36 : Int) ≤ ((l[i] % 254 + 1 : Nat) : Int) := by omega
      have eb : nonB l[i] = l[i] % 254 + 1 := by unfold nonB; rw [if_neg hq]
      simp +contextual (disch := first | (simp only [facts, clsL, clsS, clsC, isPtrD]; done) | omega | (simp only [push_nx, put_nx, del_nx]; omega) | (refine Nat.le_antisymm ?_ ?_ <;> simp only [push_nx, put_nx, del_nx] <;> omega) | fail) only [wpy, facts, wpb, cst, wpk, wpl, forall_const, implies_true, false_implies, Int.reduceLE, Int.reduceLT, Nat.reduceLeDiff, UInt8.reduceToNat, ↓reduceIte, Nat.reduceEqDiff, Nat.reduceAdd, reduceCtorEq, Int.reduceToNat, clsL, clsS, clsC, Tryz.f57, e10, e11, e12, e4, hin, hil, hr, t1, t2, hq', hq, Int.reduceEq]
      refine app_one (n0 := h.nx) (cc := l[i] % 254 + 1) ap27 tx27 (by simp +contextual (disch := first | (simp only [facts, clsL, clsS, clsC, isPtrD]; done) | omega | (simp only [push_nx, put_nx, del_nx]; omega) | (refine Nat.le_antisymm ?_ ?_ <;> simp only [push_nx, put_nx, del_nx] <;> omega) | fail) only [wpy, facts, wpb, cst, wpk, wpl, forall_const, implies_true, false_implies, Int.reduceLE, Int.reduceLT, Nat.reduceLeDiff, UInt8.reduceToNat, ↓reduceIte, Nat.reduceEqDiff, Nat.reduceAdd, reduceCtorEq, Int.reduceToNat, clsL, clsS, clsC, e4]) (by simp +contextual (disch := first | (simp only [facts, clsL, clsS, clsC, isPtrD]; done) | omega | (simp only [push_nx, put_nx, del_nx]; omega) | (refine Nat.le_antisymm ?_ ?_ <;> simp only [push_nx, put_nx, del_nx] <;> omega) | fail) only [wpy, facts, wpb, cst, wpk, wpl, forall_const, implies_true, false_implies, Int.reduceLE, Int.reduceLT, Nat.reduceLeDiff, UInt8.reduceToNat, ↓reduceIte, Nat.reduceEqDiff, Nat.reduceAdd, reduceCtorEq, Int.reduceToNat, clsL, clsS, clsC]) rfl hlv ?_ (fun k hk => by rw [fresh_def]; exact .inl hk) (by omega) ?_
      · rw [List.length_map, List.length_take]; omega
      intro v2 h2 L2 hl2 hn2 hk2 hL2
      simp +contextual (disch := first | (simp only [facts, clsL, clsS, clsC, isPtrD]; done) | omega | (simp only [push_nx, put_nx, del_nx]; omega) | (refine Nat.le_antisymm ?_ ?_ <;> simp only [push_nx, put_nx, del_nx] <;> omega) | fail) only [wpy, facts, wpb, cst, wpk, wpl, forall_const, implies_true, false_implies, Int.reduceLE, Int.reduceLT, Nat.reduceLeDiff, UInt8.reduceToNat, ↓reduceIte, Nat.reduceEqDiff, Nat.reduceAdd, reduceCtorEq, Int.reduceToNat, clsL, clsS, clsC, Tryz.f57, e10, e11, e12]
      refine ⟨20 - (i + 1), by omega, i + 1, rfl, by omega, rfl, ⟨by omega, fun k hk => by rw [hk2 k hk, hx.2 k hk]⟩, ?_⟩
      rw [take_map_succ hil, eb]
      exact ⟨_, rfl, hl2⟩
  · obtain rfl : i = 20 := by omega
    rw [List.take_of_length_le (by omega)] at hlv
    simp +contextual (disch := first | (simp only [facts, clsL, clsS, clsC, isPtrD]; done) | omega | (simp only [push_nx, put_nx, del_nx]; omega) | (refine Nat.le_antisymm ?_ ?_ <;> simp only [push_nx, put_nx, del_nx] <;> omega) | fail) only [wpy, facts, wpb, cst, wpk, wpl, forall_const, implies_true, false_implies, Int.reduceLE, Int.reduceLT, Nat.reduceLeDiff, UInt8.reduceToNat, ↓reduceIte, Nat.reduceEqDiff, Nat.reduceAdd, reduceCtorEq, Int.reduceToNat, clsL, clsS, clsC, Tryz.f57, e10, e11, e12, e4, hin]
    exact ⟨hx, _, rfl, hlv⟩
theorem rnonce_spec {v : V} {l : List Nat} {h : H} (a : BS 5 h v l) (hl : l.length = 20) : Pure S.cfg 59 [v] h fun w h' => ∃ lv, w = .tuple [lv, .int .i64 0] ∧ LB h.nx h' lv (l.map nonB) := by
  refine into Tryz.f59 _ Tryz.func59 (hS.own _ (by decide)) rfl rfl (by kernel_rfl) (by kernel_rfl) ?_
  have a1 := a.len 5
  rw [hl] at a1
  simp +contextual (disch := first | (simp only [facts, clsL, clsS, clsC, isPtrD]; done) | omega | (simp only [push_nx, put_nx, del_nx]; omega) | (refine Nat.le_antisymm ?_ ?_ <;> simp only [push_nx, put_nx, del_nx] <;> omega) | fail) only [wpy, facts, wpb, cst, wpk, wpl, forall_const, implies_true, false_implies, Int.reduceLE, Int.reduceLT, Nat.reduceLeDiff, UInt8.reduceToNat, ↓reduceIte, Nat.reduceEqDiff, Nat.reduceAdd, reduceCtorEq, Int.reduceToNat, clsL, clsS, clsC, Tryz.f59, a1]
  refine run_loop (fun k env h' => ∃ i : Nat, k = 20 - i ∧ i ≤ 20 ∧ env 0 = v ∧ env 5 = .int .i64 i ∧ Ext h h' ∧ ∃ lv, env 4 = lv ∧ LB h.nx h' lv ((l.take i).map nonB)) 20 ⟨0, ?_⟩ ?_
  · simp +contextual (disch := first | (simp only [facts, clsL, clsS, clsC, isPtrD]; done) | omega | (simp only [push_nx, put_nx, del_nx]; omega) | (refine Nat.le_antisymm ?_ ?_ <;> simp only [push_nx, put_nx, del_nx] <;> omega) | fail) only [wpy, facts, wpb, cst, wpk, wpl, forall_const, implies_true, false_implies, Int.reduceLE, Int.reduceLT, Nat.reduceLeDiff, UInt8.reduceToNat, ↓reduceIte, Nat.reduceEqDiff, Nat.reduceAdd, reduceCtorEq, Int.reduceToNat, clsL, clsS, clsC]
    exact ⟨Ext.refl h, _, rfl, .inl (.inl ⟨rfl, rfl⟩)⟩
  rintro k env h' ⟨i, rfl, hi, e0, e5, hx, lv, e4, hlv⟩
  have n1 := hx.1
  by_cases hin : i < 20
  · have hil : i < l.length := by omega
    obtain ⟨b, o, m, rfl, _, hr⟩ := (a.ext hx).at hil
    rw [getD_at hil] at hr
    have hlt := a.1 _ (List.getElem_mem hil)
    have t1 := tmodN l[i]
    have t2 : IntKind.u8.wrap (((l[i] % 254 : Nat) : Int) + 1) = ((l[i] % 254 + 1 : Nat) : Int) := by rw [IntKind.wrap_u8]; omega
    have t3 : l[i] % 254 + 1 ≥ 36 → IntKind.u8.wrap (((l[i] % 254 + 1 : Nat) : Int) + 1) = ((l[i] % 254 + 2 : Nat) : Int) := fun q => by rw [IntKind.wrap_u8]; omega
    by_cases hq : 36 ≤ l[i] % 254 + 1
    · have hq' : (36 : Int) ≤ ((l[i] % 254 + 1 : Nat) : Int) := by omega
      have eb : nonB l[i] = l[i] % 254 + 2 := by unfold nonB; rw [if_pos hq]
      simp +contextual (disch := first | (simp only [facts, clsL, clsS, clsC, isPtrD]; done) | omega | (simp only [push_nx, put_nx, del_nx]; omega) | (refine Nat.le_antisymm ?_ ?_ <;> simp only [push_nx, put_nx, del_nx] <;> omega) | fail) only [wpy, facts, wpb, cst, wpk, wpl, forall_const, implies_true, false_implies, Int.reduceLE, Int.reduceLT, Nat.reduceLeDiff, UInt8.reduceToNat, ↓reduceIte, Nat.reduceEqDiff, Nat.reduceAdd, reduceCtorEq, Int.reduceToNat, clsL, clsS, clsC, Tryz.f59, e0, e5, e4, a1, hin, hil, hr, t1, t2, t3, hq', hq, Int.reduceEq]
      refine app_one (n0 := h.nx) (cc := l[i] % 254 + 2) ap27 tx27 (by simp +contextual (disch := first | (simp only [facts, clsL, clsS, clsC, isPtrD]; done) | omega | (simp only [push_nx, put_nx, del_nx]; omega) | (refine Nat.le_antisymm ?_ ?_ <;> simp only [push_nx, put_nx, del_nx] <;> omega) | fail) only [wpy, facts, wpb, cst, wpk, wpl, forall_const, implies_true, false_implies, Int.reduceLE, Int.reduceLT, Nat.reduceLeDiff, UInt8.reduceToNat, ↓reduceIte, Nat.reduceEqDiff, Nat.reduceAdd, reduceCtorEq, Int.reduceToNat, clsL, clsS, clsC, e4]) (by simp +contextual (disch := first | (simp only [facts, clsL, clsS, clsC, isPtrD]; done) | omega | (simp only [push_nx, put_nx, del_nx]; omega) | (refine Nat.le_antisymm ?_ ?_ <;> simp only [push_nx, put_nx, del_nx] <;> omega) | fail) only [wpy, facts, wpb, cst, wpk, wpl, forall_const, implies_true, false_implies, Int.reduceLE, Int.reduceLT, Nat.reduceLeDiff, UInt8.reduceToNat, ↓reduceIte, Nat.reduceEqDiff, Nat.reduceAdd, reduceCtorEq, Int.reduceToNat, clsL, clsS, clsC]) rfl hlv ?_ (fun k hk => by rw [fresh_def]; exact .inl hk) (by omega) ?_
      · rw [List.length_map, List.length_take]; omega
      intro v2 h2 L2 hl2 hn2 hk2 hL2
      simp +contextual (disch := first | (simp only [facts, clsL, clsS, clsC, isPtrD]; done) | omega | (simp only [push_nx, put_nx, del_nx]; omega) | (refine Nat.le_antisymm ?_ ?_ <;> simp only [push_nx, put_nx, del_nx] <;> omega) | fail) only [wpy, facts, wpb, cst, wpk, wpl, forall_const, implies_true, false_implies, Int.reduceLE, Int.reduceLT, Nat.reduceLeDiff, UInt8.reduceToNat, ↓reduceIte, Nat.reduceEqDiff, Nat.reduceAdd, reduceCtorEq, Int.reduceToNat, clsL, clsS, clsC, Tryz.f59, e0, e5]
      refine ⟨20 - (i + 1), by omega, i + 1, rfl, by omega, rfl, ⟨by omega, fun k hk => by rw [hk2 k hk, hx.2 k hk]⟩, ?_⟩
      rw [take_map_succ hil, eb]
      exact ⟨_, rfl, hl2⟩
    · have hq' : ¬ (36 : Int) ≤ ((l[i] % 254 + 1 : Nat) : Int) := by omega
      have eb : nonB l[i] = l[i] % 254 + 1 := by unfold nonB; rw [if_neg hq]
      simp +contextual (disch := first | (simp only [facts, clsL, clsS, clsC, isPtrD]; done) | omega | (simp only [push_nx, put_nx, del_nx]; omega) | (refine Nat.le_antisymm ?_ ?_ <;> simp only [push_nx, put_nx, del_nx] <;> omega) | fail) only [wpy, facts, wpb, cst, wpk, wpl, forall_const, implies_true, false_implies, Int.reduceLE, Int.reduceLT, Nat.reduceLeDiff, UInt8.reduceToNat, ↓reduceIte, Nat.reduceEqDiff, Nat.reduceAdd, reduceCtorEq, Int.reduceToNat, clsL, clsS, clsC, Tryz.f59, e0, e5, e4, a1, hin, hil, hr, t1, t2, hq', hq, Int.reduceEq]
      refine app_one (n0 := h.nx) (cc := l[i] % 254 + 1) ap27 tx27 (by simp +contextual (disch := first | (simp only [facts, clsL, clsS, clsC, isPtrD]; done) | omega | (simp only [push_nx, put_nx, del_nx]; omega) | (refine Nat.le_antisymm ?_ ?_ <;> simp only [push_nx, put_nx, del_nx] <;> omega) | fail) only [wpy, facts, wpb, cst, wpk, wpl, forall_const, implies_true, false_implies, Int.reduceLE, Int.reduceLT, Nat.reduceLeDiff, UInt8.reduceToNat, ↓reduceIte, Nat.reduceEqDiff, Nat.reduceAdd, reduceCtorEq, Int.reduceToNat, clsL, clsS, clsC, e4]) (by simp +contextual (disch := first | (simp only [facts, clsL, clsS, clsC, isPtrD]; done) | omega | (simp only [push_nx, put_nx, del_nx]; omega) | (refine Nat.le_antisymm ?_ ?_ <;> simp only [push_nx, put_nx, del_nx] <;> omega) | fail) only [wpy, facts, wpb, cst, wpk, wpl, forall_const, implies_true, false_implies, Int.reduceLE, Int.reduceLT, Nat.reduceLeDiff, UInt8.reduceToNat, ↓reduceIte, Nat.reduceEqDiff, Nat.reduceAdd, reduceCtorEq, Int.reduceToNat, clsL, clsS, clsC]) rfl hlv ?_ (fun k hk => by rw [fresh_def]; exact .inl hk) (by omega) ?_
      · rw [List.length_map, List.length_take]; omega
      intro v2 h2 L2 hl2 hn2 hk2 hL2
      simp +contextual (disch := first | (simp only [facts, clsL, clsS, clsC, isPtrD]; done) | omega | (simp only [push_nx, put_nx, del_nx]; omega) | (refine Nat.le_antisymm ?_ ?_ <;> simp only [push_nx, put_nx, del_nx] <;> omega) | fail) only [wpy, facts, wpb, cst, wpk, wpl, forall_const, implies_true, false_implies, Int.reduceLE, Int.reduceLT, Nat.reduceLeDiff, UInt8.reduceToNat, ↓reduceIte, Nat.reduceEqDiff, Nat.reduceAdd, reduceCtorEq, Int.reduceToNat, clsL, clsS, clsC, Tryz.f59, e0, e5]
      refine ⟨20 - (i + 1), by omega, i + 1, rfl, by omega, rfl, ⟨by omega, fun k hk => by rw [hk2 k hk, hx.2 k hk]⟩, ?_⟩
      rw [take_map_succ hil, eb]
      exact ⟨_, rfl, hl2⟩
  · obtain rfl : i = 20 := by omega
    rw [List.take_of_length_le (by omega)] at hlv
    simp +contextual (disch := first | (simp only [facts, clsL, clsS, clsC, isPtrD]; done) | omega | (simp only [push_nx, put_nx, del_nx]; omega) | (refine Nat.le_antisymm ?_ ?_ <;> simp only [push_nx, put_nx, del_nx] <;> omega) | fail) only [wpy, facts, wpb, cst, wpk, wpl, forall_const, implies_true, false_implies, Int.reduceLE, Int.reduceLT, Nat.reduceLeDiff, UInt8.reduceToNat, ↓reduceIte, Nat.reduceEqDiff, Nat.reduceAdd, reduceCtorEq, Int.reduceToNat, clsL, clsS, clsC, Tryz.f59, e0, e5, e4, a1, hin]
    exact ⟨hx, _, rfl, hlv⟩
theorem pnonce_spec (x : Int) (h : H) : Pure S.cfg 22 [.int .u64 x] h fun w h' => LB h.nx h' w (nonceF x) := by
  refine into Tryz.f22 _ Tryz.func22 (hS.own _ (by decide)) rfl rfl (by kernel_rfl) (by kernel_rfl) ?_
  simp +contextual (disch := first | (simp only [facts, clsL, clsS, clsC, isPtrD]; done) | omega | (simp only [push_nx, put_nx, del_nx]; omega) | (refine Nat.le_antisymm ?_ ?_ <;> simp only [push_nx, put_nx, del_nx] <;> omega) | fail) only [wpy, facts, wpb, cst, wpk, wpl, forall_const, implies_true, false_implies, Int.reduceLE, Int.reduceLT, Nat.reduceLeDiff, UInt8.reduceToNat, ↓reduceIte, Nat.reduceEqDiff, Nat.reduceAdd, reduceCtorEq, Int.reduceToNat, clsL, clsS, clsC, Tryz.f22]
  refine mk_bytes (n := 20) (by decide) rfl ?_
  simp +contextual (disch := first | (simp only [facts, clsL, clsS, clsC, isPtrD]; done) | omega | (simp only [push_nx, put_nx, del_nx]; omega) | (refine Nat.le_antisymm ?_ ?_ <;> simp only [push_nx, put_nx, del_nx] <;> omega) | fail) only [wpy, facts, wpb, cst, wpk, wpl, forall_const, implies_true, false_implies, Int.reduceLE, Int.reduceLT, Nat.reduceLeDiff, UInt8.reduceToNat, ↓reduceIte, Nat.reduceEqDiff, Nat.reduceAdd, reduceCtorEq, Int.reduceToNat, clsL, clsS, clsC, Tryz.f22]
  generalize hhA : H.push h _ = hA
  have hxA : Ext h hA := by rw [← hhA]; exact (Ext.refl h).push _
  have nA : hA.nx = h.nx + 1 := by rw [← hhA]; rfl
  have gA : hA.get h.nx = some (.cells (bytesV (List.replicate 20 0)) 5 false) := by rw [← hhA]; exact push_eq rfl
  clear hhA
  refine run_blk_cut (fun env h' => env 3 = .slice h.nx 0 20 20 ∧ Ext h h' ∧ h'.nx = h.nx + 1 ∧ h'.get h.nx = some (.cells (bytesV (drawsF x)) 5 false)) ?_ ?_
  · refine run_loop (fun k env h' => ∃ i : Nat, k = 20 - i ∧ i ≤ 20 ∧ env 0 = .int .u64 x ∧ env 3 = .slice h.nx 0 20 20 ∧ env 9 = .int .i64 20 ∧ env 10 = .int .i64 i ∧ Ext h h' ∧ h'.nx = h.nx + 1 ∧ h'.get h.nx = some (.cells (bytesV ((List.range i).map (mB x) ++ List.replicate (20 - i) 0)) 5 false)) 20 ⟨0, ?_⟩ ?_
    · simp +contextual (disch := first | (simp only [facts, clsL, clsS, clsC, isPtrD]; done) | omega | (simp only [push_nx, put_nx, del_nx]; omega) | (refine Nat.le_antisymm ?_ ?_ <;> simp only [push_nx, put_nx, del_nx] <;> omega) | fail) only [wpy, facts, wpb, cst, wpk, wpl, forall_const, implies_true, false_implies, Int.reduceLE, Int.reduceLT, Nat.reduceLeDiff, UInt8.reduceToNat, ↓reduceIte, Nat.reduceEqDiff, Nat.reduceAdd, reduceCtorEq, Int.reduceToNat, clsL, clsS, clsC]
      exact ⟨hxA, nA, gA⟩
    rintro k env h' ⟨i, rfl, hi, e0, e3, e9, e10, hx, hn, hg⟩
    by_cases hin : i < 20
    · have w1 : IntKind.u64.wrap (i : Int) = i := u64_in _ (by omega)
      have hil : i < (bytesV ((List.range i).map (mB x) ++ List.replicate (20 - i) 0)).length := by rw [bytesV_length]; simp; omega
      simp +contextual (disch := first | (simp only [facts, clsL, clsS, clsC, isPtrD]; done) | omega | (simp only [push_nx, put_nx, del_nx]; omega) | (refine Nat.le_antisymm ?_ ?_ <;> simp only [push_nx, put_nx, del_nx] <;> omega) | fail) only [wpy, facts, wpb, cst, wpk, wpl, forall_const, implies_true, false_implies, Int.reduceLE, Int.reduceLT, Nat.reduceLeDiff, UInt8.reduceToNat, ↓reduceIte, Nat.reduceEqDiff, Nat.reduceAdd, reduceCtorEq, Int.reduceToNat, clsL, clsS, clsC, Tryz.f22, e0, e3, e9, e10, hin, w1]
      refine callF_exact (mix_spec hS _ _ _) ?_
      have w2 := mB_wrap x i
      simp +contextual (disch := first | (simp only [facts, clsL, clsS, clsC, isPtrD]; done) | omega | (simp only [push_nx, put_nx, del_nx]; omega) | (refine Nat.le_antisymm ?_ ?_ <;> simp only [push_nx, put_nx, del_nx] <;> omega) | fail) only [wpy, facts, wpb, cst, wpk, wpl, forall_const, implies_true, false_implies, Int.reduceLE, Int.reduceLT, Nat.reduceLeDiff, UInt8.reduceToNat, ↓reduceIte, Nat.reduceEqDiff, Nat.reduceAdd, reduceCtorEq, Int.reduceToNat, clsL, clsS, clsC, Tryz.f22, e0, e3, e9, e10, hin, w1, w2, hg]
      refine ⟨by simp; omega, 20 - (i + 1), by omega, i + 1, rfl, by omega, rfl, ⟨hx.1, fun k hk => by rw [put_ne (by omega)]; exact hx.2 k hk⟩, hn, ?_⟩
      rw [put_draw hin]
    · obtain rfl : i = 20 := by omega
      simp +contextual (disch := first | (simp only [facts, clsL, clsS, clsC, isPtrD]; done) | omega | (simp only [push_nx, put_nx, del_nx]; omega) | (refine Nat.le_antisymm ?_ ?_ <;> simp only [push_nx, put_nx, del_nx] <;> omega) | fail) only [wpy, facts, wpb, cst, wpk, wpl, forall_const, implies_true, false_implies, Int.reduceLE, Int.reduceLT, Nat.reduceLeDiff, UInt8.reduceToNat, ↓reduceIte, Nat.reduceEqDiff, Nat.reduceAdd, reduceCtorEq, Int.reduceToNat, clsL, clsS, clsC, Tryz.f22, e0, e3, e9, e10, hin]
      refine ⟨hx, hn, ?_⟩
      rw [hg]
      unfold drawsF
      simp
  rintro env h1 ⟨e3, hx1, hn1, hg1⟩
  have hb : BS 5 h1 (.slice h.nx 0 20 20) (drawsF x) := by
    refine ⟨draws_lt x 20, .inr ⟨h.nx, 0, 20, by rw [drawsF_len], by omega, by rw [drawsF_len]; omega, ?_, fun kc e' fl q hf => ?_⟩⟩
    · rw [hg1, drawsF_len]
      exact rdC_all (by rw [bytesV_length, drawsF_len])
    · rw [hg1] at q; cases q; rfl
  simp +contextual (disch := first | (simp only [facts, clsL, clsS, clsC, isPtrD]; done) | omega | (simp only [push_nx, put_nx, del_nx]; omega) | (refine Nat.le_antisymm ?_ ?_ <;> simp only [push_nx, put_nx, del_nx] <;> omega) | fail) only [wpy, facts, wpb, cst, wpk, wpl, forall_const, implies_true, false_implies, Int.reduceLE, Int.reduceLT, Nat.reduceLeDiff, UInt8.reduceToNat, ↓reduceIte, Nat.reduceEqDiff, Nat.reduceAdd, reduceCtorEq, Int.reduceToNat, clsL, clsS, clsC, Tryz.f22, e3]
  refine callF_pure (nonce_spec hS hb (drawsF_len x)) ?_
  rintro _ h2 hx2 ⟨lv, rfl, hlv⟩
  simp +contextual (disch := first | (simp only [facts, clsL, clsS, clsC, isPtrD]; done) | omega | (simp only [push_nx, put_nx, del_nx]; omega) | (refine Nat.le_antisymm ?_ ?_ <;> simp only [push_nx, put_nx, del_nx] <;> omega) | fail) only [wpy, facts, wpb, cst, wpk, wpl, forall_const, implies_true, false_implies, Int.reduceLE, Int.reduceLT, Nat.reduceLeDiff, UInt8.reduceToNat, ↓reduceIte, Nat.reduceEqDiff, Nat.reduceAdd, reduceCtorEq, Int.reduceToNat, clsL, clsS, clsC, Tryz.f22]
  exact ⟨hx1.trans hx2, LB.mono hlv hx1.1⟩
theorem rpnonce_spec (x : Int) (h : H) : Pure S.cfg 23 [.int .u64 x] h fun w h' => LB h.nx h' w (nonceF x) := by
  refine into Tryz.f23 _ Tryz.func23 (hS.own _ (by decide)) rfl rfl (by kernel_rfl) (by kernel_rfl) ?_
  simp +contextual (disch := first | (simp only [facts, clsL, clsS, clsC, isPtrD]; done) | omega | (simp only [push_nx, put_nx, del_nx]; omega) | (refine Nat.le_antisymm ?_ ?_ <;> simp only [push_nx, put_nx, del_nx] <;> omega) | fail) only [wpy, facts, wpb, cst, wpk, wpl, forall_const, implies_true, false_implies, Int.reduceLE, Int.reduceLT, Nat.reduceLeDiff, UInt8.reduceToNat, ↓reduceIte, Nat.reduceEqDiff, Nat.reduceAdd, reduceCtorEq, Int.reduceToNat, clsL, clsS, clsC, Tryz.f23]
  refine run_blk_cut (fun env h' => ∃ lv, env 3 = lv ∧ Ext h h' ∧ LB h.nx h' lv (drawsF x)) ?_ ?_
  · refine run_loop (fun k env h' => ∃ i : Nat, k = 20 - i ∧ i ≤ 20 ∧ env 0 = .int .u64 x ∧ env 4 = .int .i64 i ∧ Ext h h' ∧ ∃ lv, env 3 = lv ∧ LB h.nx h' lv ((List.range i).map (mB x))) 20 ⟨0, ?_⟩ ?_
    · simp +contextual (disch := first | (simp only [facts, clsL, clsS, clsC, isPtrD]; done) | omega | (simp only [push_nx, put_nx, del_nx]; omega) | (refine Nat.le_antisymm ?_ ?_ <;> simp only [push_nx, put_nx, del_nx] <;> omega) | fail) only [wpy, facts, wpb, cst, wpk, wpl, forall_const, implies_true, false_implies, Int.reduceLE, Int.reduceLT, Nat.reduceLeDiff, UInt8.reduceToNat, ↓reduceIte, Nat.reduceEqDiff, Nat.reduceAdd, reduceCtorEq, Int.reduceToNat, clsL, clsS, clsC]
      exact ⟨Ext.refl h, _, rfl, .inl (.inl ⟨rfl, rfl⟩)⟩
    rintro k env h' ⟨i, rfl, hi, e0, e4, hx, lv, e3, hlv⟩
    have n1 := hx.1
    by_cases hin : i < 20
    · have w1 : IntKind.u64.wrap (i : Int) = i := u64_in _ (by omega)
      simp +contextual (disch := first | (simp only [facts, clsL, clsS, clsC, isPtrD]; done) | omega | (simp only [push_nx, put_nx, del_nx]; omega) | (refine Nat.le_antisymm ?_ ?_ <;> simp only [push_nx, put_nx, del_nx] <;> omega) | fail) only [wpy, facts, wpb, cst, wpk, wpl, forall_const, implies_true, false_implies, Int.reduceLE, Int.reduceLT, Nat.reduceLeDiff, UInt8.reduceToNat, ↓reduceIte, Nat.reduceEqDiff, Nat.reduceAdd, reduceCtorEq, Int.reduceToNat, clsL, clsS, clsC, Tryz.f23, e0, e3, e4, hin, w1]
      refine callF_exact (rmix_spec hS _ _ _) ?_
      have w2 := mB_wrap x i
      simp +contextual (disch := first | (simp only [facts, clsL, clsS, clsC, isPtrD]; done) | omega | (simp only [push_nx, put_nx, del_nx]; omega) | (refine Nat.le_antisymm ?_ ?_ <;> simp only [push_nx, put_nx, del_nx] <;> omega) | fail) only [wpy, facts, wpb, cst, wpk, wpl, forall_const, implies_true, false_implies, Int.reduceLE, Int.reduceLT, Nat.reduceLeDiff, UInt8.reduceToNat, ↓reduceIte, Nat.reduceEqDiff, Nat.reduceAdd, reduceCtorEq, Int.reduceToNat, clsL, clsS, clsC, Tryz.f23, e0, e3, e4, hin, w1, w2]
      refine app_one (n0 := h.nx) (cc := mB x i) ap27 tx27 (by simp +contextual (disch := first | (simp only [facts, clsL, clsS, clsC, isPtrD]; done) | omega | (simp only [push_nx, put_nx, del_nx]; omega) | (refine Nat.le_antisymm ?_ ?_ <;> simp only [push_nx, put_nx, del_nx] <;> omega) | fail) only [wpy, facts, wpb, cst, wpk, wpl, forall_const, implies_true, false_implies, Int.reduceLE, Int.reduceLT, Nat.reduceLeDiff, UInt8.reduceToNat, ↓reduceIte, Nat.reduceEqDiff, Nat.reduceAdd, reduceCtorEq, Int.reduceToNat, clsL, clsS, clsC, e3]) (by simp +contextual (disch := first | (simp only [facts, clsL, clsS, clsC, isPtrD]; done) | omega | (simp only [push_nx, put_nx, del_nx]; omega) | (refine Nat.le_antisymm ?_ ?_ <;> simp only [push_nx, put_nx, del_nx] <;> omega) | fail) only [wpy, facts, wpb, cst, wpk, wpl, forall_const, implies_true, false_implies, Int.reduceLE, Int.reduceLT, Nat.reduceLeDiff, UInt8.reduceToNat, ↓reduceIte, Nat.reduceEqDiff, Nat.reduceAdd, reduceCtorEq, Int.reduceToNat, clsL, clsS, clsC]) rfl hlv ?_ (fun k hk => by rw [fresh_def]; exact .inl hk) (by omega) ?_
      · simp; omega
      intro v2 h2 L2 hl2 hn2 hk2 hL2
      simp +contextual (disch := first | (simp only [facts, clsL, clsS, clsC, isPtrD]; done) | omega | (simp only [push_nx, put_nx, del_nx]; omega) | (refine Nat.le_antisymm ?_ ?_ <;> simp only [push_nx, put_nx, del_nx] <;> omega) | fail) only [wpy, facts, wpb, cst, wpk, wpl, forall_const, implies_true, false_implies, Int.reduceLE, Int.reduceLT, Nat.reduceLeDiff, UInt8.reduceToNat, ↓reduceIte, Nat.reduceEqDiff, Nat.reduceAdd, reduceCtorEq, Int.reduceToNat, clsL, clsS, clsC, Tryz.f23, e0, e4]
      refine ⟨20 - (i + 1), by omega, i + 1, rfl, by omega, rfl, ⟨by omega, fun k hk => by rw [hk2 k hk, hx.2 k hk]⟩, ?_⟩
      rw [List.range_succ, List.map_append]
      exact ⟨_, rfl, hl2⟩
    · obtain rfl : i = 20 := by omega
      simp +contextual (disch := first | (simp only [facts, clsL, clsS, clsC, isPtrD]; done) | omega | (simp only [push_nx, put_nx, del_nx]; omega) | (refine Nat.le_antisymm ?_ ?_ <;> simp only [push_nx, put_nx, del_nx] <;> omega) | fail) only [wpy, facts, wpb, cst, wpk, wpl, forall_const, implies_true, false_implies, Int.reduceLE, Int.reduceLT, Nat.reduceLeDiff, UInt8.reduceToNat, ↓reduceIte, Nat.reduceEqDiff, Nat.reduceAdd, reduceCtorEq, Int.reduceToNat, clsL, clsS, clsC, Tryz.f23, e0, e3, e4, hin]
      exact ⟨_, rfl, hx, hlv⟩
  rintro env h1 ⟨lv, e3, hx1, hl1⟩
  simp +contextual (disch := first | (simp only [facts, clsL, clsS, clsC, isPtrD]; done) | omega | (simp only [push_nx, put_nx, del_nx]; omega) | (refine Nat.le_antisymm ?_ ?_ <;> simp only [push_nx, put_nx, del_nx] <;> omega) | fail) only [wpy, facts, wpb, cst, wpk, wpl, forall_const, implies_true, false_implies, Int.reduceLE, Int.reduceLT, Nat.reduceLeDiff, UInt8.reduceToNat, ↓reduceIte, Nat.reduceEqDiff, Nat.reduceAdd, reduceCtorEq, Int.reduceToNat, clsL, clsS, clsC, Tryz.f23, e3]
  refine callF_pure (rnonce_spec hS (hl1.bs (draws_lt x 20)) (drawsF_len x)) ?_
  rintro _ h2 hx2 ⟨lv2, rfl, hlv2⟩
  simp +contextual (disch := first | (simp only [facts, clsL, clsS, clsC, isPtrD]; done) | omega | (simp only [push_nx, put_nx, del_nx]; omega) | (refine Nat.le_antisymm ?_ ?_ <;> simp only [push_nx, put_nx, del_nx] <;> omega) | fail) only [wpy, facts, wpb, cst, wpk, wpl, forall_const, implies_true, false_implies, Int.reduceLE, Int.reduceLT, Nat.reduceLeDiff, UInt8.reduceToNat, ↓reduceIte, Nat.reduceEqDiff, Nat.reduceAdd, reduceCtorEq, Int.reduceToNat, clsL, clsS, clsC, Tryz.f23]
  exact ⟨hx1.trans hx2, LB.mono hlv2 hx1.1⟩
theorem same_spec {v w : V} {l m : List Nat} {h : H} (a : BS 5 h v l) (b : BS 5 h w m) : Exact S.cfg 21 [v, w] h (bo (l = m)) := by
  refine into Tryz.f21 _ Tryz.func21 (hS.own _ (by decide)) rfl rfl (by kernel_rfl) (by kernel_rfl) ?_
  obtain ⟨L1, _, q1⟩ := a.str
  obtain ⟨L2, _, q2⟩ := b.str
  simp +contextual (disch := first | (simp only [facts, clsL, clsS, clsC, isPtrD]; done) | omega | (simp only [push_nx, put_nx, del_nx]; omega) | (refine Nat.le_antisymm ?_ ?_ <;> simp only [push_nx, put_nx, del_nx] <;> omega) | fail) only [wpy, facts, wpb, cst, wpk, wpl, forall_const, implies_true, false_implies, Int.reduceLE, Int.reduceLT, Nat.reduceLeDiff, UInt8.reduceToNat, ↓reduceIte, Nat.reduceEqDiff, Nat.reduceAdd, reduceCtorEq, Int.reduceToNat, clsL, clsS, clsC, Tryz.f21, q1, q2]
end
end Go.Proofs.YthhdkonpejmgcaaGreatDoor

/-
  Texts and users looked into.
-/
set_option linter.unusedSimpArgs false
set_option linter.unusedVariables false
set_option linter.unusedSectionVars false
set_option linter.defProp false
set_option maxRecDepth 20000
set_option maxHeartbeats 2000000
namespace Go.Proofs.YthhdkonpejmgcaaGreatDoor
open Go.Proofs Go.Lx Go.Wx Go.IntWalk
noncomputable section
def plainP (s : List Nat) : Prop := s.length ≤ 64 ∧ 0 ∉ s
structure UR where
  n : List Nat
  p : List Nat
  g : List Nat
  s : List Nat
  a : Bool
def UR.cells (u : UR) : List V := [.str u.n, .str u.p, .str u.g, .str u.s, .bool u.a]
def natT : List Nat := [109, 121, 115, 113, 108, 95, 110, 97, 116, 105, 118, 101, 95, 112, 97, 115, 115, 119, 111, 114, 100]
def fastT : List Nat := [99, 97, 99, 104, 105, 110, 103, 95, 115, 104, 97, 50, 95, 112, 97, 115, 115, 119, 111, 114, 100]
def userP (u : UR) : Prop := u.n ≠ [] ∧ plainP u.n ∧ plainP u.p ∧ plainP u.s ∧ (u.g = natT ∨ u.g = fastT)
noncomputable def userE (u : UR) : Int := @ite Int (userP u) (Classical.propDecidable _) 0 2
theorem userE_yes {u : UR} (h : userP u) : userE u = 0 := by unfold userE; rw [if_pos h]
theorem userE_no {u : UR} (h : ¬ userP u) : userE u = 2 := by unfold userE; rw [if_neg h]
structure URok (u : UR) : Prop where
  n : u.n.length < 2 ^ 63
  p : u.p.length < 2 ^ 63
  s : u.s.length < 2 ^ 63
  bn : ∀ x ∈ u.n, x < 256
  bp : ∀ x ∈ u.p, x < 256
  bs : ∀ x ∈ u.s, x < 256
theorem exact_pure {c : Cfg} {f : FuncId} {args : List V} {h : H} {v : V} (a : Exact c f args h v) : Pure c f args h fun w _ => w = v :=
  callW_mono a (fun k q => q) fun w h' q => ⟨by rw [q.2]; exact Ext.refl h, q.1⟩
variable {S : Set0} (hS : StdU S)
include hS
theorem idxB_spec (s : List Nat) (b n m : Nat) (e : TypeId) (fl : Bool) (h : H) (hn : n = s.length) (hs : s.length < 2 ^ 40) (hg : h.get b = some (.cells (bytesV s) e fl)) : callW S.cfg nil1 193 [.slice b 0 n m, .int .u8 0] h fun v h' => h' = h ∧ ∃ k : Int, v = .int .i64 k ∧ (0 ≤ k ↔ 0 ∈ s) := by
  subst hn
  refine into Tryz.f193 _ Tryz.func193 (hS.own _ (by decide)) rfl rfl (by kernel_rfl) (by kernel_rfl) ?_
  simp +contextual (disch := first | (simp only [facts, clsL, clsS, clsC, isPtrD]; done) | omega | (simp only [push_nx, put_nx, del_nx]; omega) | (refine Nat.le_antisymm ?_ ?_ <;> simp only [push_nx, put_nx, del_nx] <;> omega) | fail) only [wpy, facts, wpb, cst, wpk, wpl, forall_const, implies_true, false_implies, Int.reduceLE, Int.reduceLT, Nat.reduceLeDiff, UInt8.reduceToNat, ↓reduceIte, Nat.reduceEqDiff, Nat.reduceAdd, reduceCtorEq, Int.reduceToNat, clsL, clsS, clsC, Tryz.f193]
  refine run_loop (fun k env h' => ∃ i : Nat, k = s.length - i ∧ i ≤ s.length ∧ env 0 = .slice b 0 s.length m ∧ env 1 = .int .u8 0 ∧ env 7 = .int .i64 s.length ∧ env 8 = .int .i64 i ∧ h' = h ∧ 0 ∉ s.take i) s.length ⟨0, ?_⟩ ?_
  · simp +contextual (disch := first | (simp only [facts, clsL, clsS, clsC, isPtrD]; done) | omega | (simp only [push_nx, put_nx, del_nx]; omega) | (refine Nat.le_antisymm ?_ ?_ <;> simp only [push_nx, put_nx, del_nx] <;> omega) | fail) only [wpy, facts, wpb, cst, wpk, wpl, forall_const, implies_true, false_implies, Int.reduceLE, Int.reduceLT, Nat.reduceLeDiff, UInt8.reduceToNat, ↓reduceIte, Nat.reduceEqDiff, Nat.reduceAdd, reduceCtorEq, Int.reduceToNat, clsL, clsS, clsC]
    simp
  rintro k env h' ⟨i, rfl, hi, e0, e1, e7, e8, rfl, hno⟩
  by_cases hi2 : i < s.length
  · have hgi : (bytesV s)[i]? = some (.int .u8 (s[i] : Nat)) := by simp [bytesV, List.getElem?_map, List.getElem?_eq_getElem hi2]
    by_cases h0 : s[i] = 0
    · rw [h0] at hgi
      have hin : 0 ∈ s := by rw [← h0]; exact List.getElem_mem hi2
      simp +contextual (disch := first | (simp only [facts, clsL, clsS, clsC, isPtrD]; done) | omega | (simp only [push_nx, put_nx, del_nx]; omega) | (refine Nat.le_antisymm ?_ ?_ <;> simp only [push_nx, put_nx, del_nx] <;> omega) | fail) only [wpy, facts, wpb, cst, wpk, wpl, forall_const, implies_true, false_implies, Int.reduceLE, Int.reduceLT, Nat.reduceLeDiff, UInt8.reduceToNat, ↓reduceIte, Nat.reduceEqDiff, Nat.reduceAdd, reduceCtorEq, Int.reduceToNat, clsL, clsS, clsC, Tryz.f193, e0, e1, e7, e8, hi2, hg, hgi]
      exact ⟨_, rfl, by simp [hin]⟩
    · have h0' : ¬ (0 : Int) = (s[i] : Nat) := by omega
      simp +contextual (disch := first | (simp only [facts, clsL, clsS, clsC, isPtrD]; done) | omega | (simp only [push_nx, put_nx, del_nx]; omega) | (refine Nat.le_antisymm ?_ ?_ <;> simp only [push_nx, put_nx, del_nx] <;> omega) | fail) only [wpy, facts, wpb, cst, wpk, wpl, forall_const, implies_true, false_implies, Int.reduceLE, Int.reduceLT, Nat.reduceLeDiff, UInt8.reduceToNat, ↓reduceIte, Nat.reduceEqDiff, Nat.reduceAdd, reduceCtorEq, Int.reduceToNat, clsL, clsS, clsC, Tryz.f193, e0, e1, e7, e8, hi2, hg, hgi, h0, h0']
      refine ⟨_, ?_, i + 1, rfl, by omega, rfl, ?_⟩
      · omega
      rw [List.take_succ_eq_append_getElem hi2, List.mem_append]
      rintro (q | q)
      · exact hno q
      · rw [List.mem_singleton] at q
        exact h0 q.symm
  · simp +contextual (disch := first | (simp only [facts, clsL, clsS, clsC, isPtrD]; done) | omega | (simp only [push_nx, put_nx, del_nx]; omega) | (refine Nat.le_antisymm ?_ ?_ <;> simp only [push_nx, put_nx, del_nx] <;> omega) | fail) only [wpy, facts, wpb, cst, wpk, wpl, forall_const, implies_true, false_implies, Int.reduceLE, Int.reduceLT, Nat.reduceLeDiff, UInt8.reduceToNat, ↓reduceIte, Nat.reduceEqDiff, Nat.reduceAdd, reduceCtorEq, Int.reduceToNat, clsL, clsS, clsC, Tryz.f193, e0, e1, e7, e8, hi2]
    rw [List.take_of_length_le (by omega)] at hno
    exact ⟨_, rfl, by simp [hno]⟩
theorem conB_spec (s : List Nat) (b n m : Nat) (e : TypeId) (fl : Bool) (h : H) (hn : n = s.length) (hs : s.length < 2 ^ 40) (hg : h.get b = some (.cells (bytesV s) e fl)) : Exact S.cfg 121 [.slice b 0 n m, .int .u8 0] h (bo (0 ∈ s)) := by
  refine into Tryz.f121 _ Tryz.func121 (hS.own _ (by decide)) rfl rfl (by kernel_rfl) (by kernel_rfl) ?_
  simp +contextual (disch := first | (simp only [facts, clsL, clsS, clsC, isPtrD]; done) | omega | (simp only [push_nx, put_nx, del_nx]; omega) | (refine Nat.le_antisymm ?_ ?_ <;> simp only [push_nx, put_nx, del_nx] <;> omega) | fail) only [wpy, facts, wpb, cst, wpk, wpl, forall_const, implies_true, false_implies, Int.reduceLE, Int.reduceLT, Nat.reduceLeDiff, UInt8.reduceToNat, ↓reduceIte, Nat.reduceEqDiff, Nat.reduceAdd, reduceCtorEq, Int.reduceToNat, clsL, clsS, clsC, Tryz.f121]
  refine callF_of (idxB_spec hS s b n m e fl h hn hs hg) (fun k q => q.elim) ?_
  rintro v h1 ⟨rfl, k, rfl, hk⟩
  simp +contextual (disch := first | (simp only [facts, clsL, clsS, clsC, isPtrD]; done) | omega | (simp only [push_nx, put_nx, del_nx]; omega) | (refine Nat.le_antisymm ?_ ?_ <;> simp only [push_nx, put_nx, del_nx] <;> omega) | fail) only [wpy, facts, wpb, cst, wpk, wpl, forall_const, implies_true, false_implies, Int.reduceLE, Int.reduceLT, Nat.reduceLeDiff, UInt8.reduceToNat, ↓reduceIte, Nat.reduceEqDiff, Nat.reduceAdd, reduceCtorEq, Int.reduceToNat, clsL, clsS, clsC, Tryz.f121]
  first | exact ⟨congrArg bo (propext hk), rfl⟩ | exact congrArg bo (propext hk)
theorem idxS_spec (ts : List (List Nat)) (t : List Nat) (b n m : Nat) (h : H) (hn : n ≤ ts.length) (hs : ts.length < 2 ^ 40) (hg : h.get b = some (.ro (ts.map V.str))) : callW S.cfg nil1 194 [.slice b 0 n m, .str t] h fun v h' => h' = h ∧ ∃ k : Int, v = .int .i64 k ∧ (0 ≤ k ↔ t ∈ ts.take n) := by
  refine into Tryz.f194 _ Tryz.func194 (hS.own _ (by decide)) rfl rfl (by kernel_rfl) (by kernel_rfl) ?_
  simp +contextual (disch := first | (simp only [facts, clsL, clsS, clsC, isPtrD]; done) | omega | (simp only [push_nx, put_nx, del_nx]; omega) | (refine Nat.le_antisymm ?_ ?_ <;> simp only [push_nx, put_nx, del_nx] <;> omega) | fail) only [wpy, facts, wpb, cst, wpk, wpl, forall_const, implies_true, false_implies, Int.reduceLE, Int.reduceLT, Nat.reduceLeDiff, UInt8.reduceToNat, ↓reduceIte, Nat.reduceEqDiff, Nat.reduceAdd, reduceCtorEq, Int.reduceToNat, clsL, clsS, clsC, Tryz.f194]
  refine run_loop (fun k env h' => ∃ i : Nat, k = n - i ∧ i ≤ n ∧ env 0 = .slice b 0 n m ∧ env 1 = .str t ∧ env 7 = .int .i64 n ∧ env 8 = .int .i64 i ∧ h' = h ∧ t ∉ ts.take i) n ⟨0, ?_⟩ ?_
  · simp +contextual (disch := first | (simp only [facts, clsL, clsS, clsC, isPtrD]; done) | omega | (simp only [push_nx, put_nx, del_nx]; omega) | (refine Nat.le_antisymm ?_ ?_ <;> simp only [push_nx, put_nx, del_nx] <;> omega) | fail) only [wpy, facts, wpb, cst, wpk, wpl, forall_const, implies_true, false_implies, Int.reduceLE, Int.reduceLT, Nat.reduceLeDiff, UInt8.reduceToNat, ↓reduceIte, Nat.reduceEqDiff, Nat.reduceAdd, reduceCtorEq, Int.reduceToNat, clsL, clsS, clsC]
    simp
  rintro k env h' ⟨i, rfl, hi, e0, e1, e7, e8, rfl, hno⟩
  by_cases hi2 : i < n
  · have hi3 : i < ts.length := by omega
    have hgi : (ts.map V.str)[i]? = some (.str ts[i]) := by rw [List.getElem?_map, List.getElem?_eq_getElem hi3]; rfl
    by_cases h0 : t = ts[i]
    · have hin : t ∈ ts.take n := by
        rw [h0]
        exact List.mem_take_iff_getElem.2 ⟨i, by omega, rfl⟩
      simp +contextual (disch := first | (simp only [facts, clsL, clsS, clsC, isPtrD]; done) | omega | (simp only [push_nx, put_nx, del_nx]; omega) | (refine Nat.le_antisymm ?_ ?_ <;> simp only [push_nx, put_nx, del_nx] <;> omega) | fail) only [wpy, facts, wpb, cst, wpk, wpl, forall_const, implies_true, false_implies, Int.reduceLE, Int.reduceLT, Nat.reduceLeDiff, UInt8.reduceToNat, ↓reduceIte, Nat.reduceEqDiff, Nat.reduceAdd, reduceCtorEq, Int.reduceToNat, clsL, clsS, clsC, Tryz.f194, e0, e1, e7, e8, hi2, hg, hgi, h0]
      rw [← h0]
      exact ⟨_, rfl, by simp [hin]⟩
    · simp +contextual (disch := first | (simp only [facts, clsL, clsS, clsC, isPtrD]; done) | omega | (simp only [push_nx, put_nx, del_nx]; omega) | (refine Nat.le_antisymm ?_ ?_ <;> simp only [push_nx, put_nx, del_nx] <;> omega) | fail) only [wpy, facts, wpb, cst, wpk, wpl, forall_const, implies_true, false_implies, Int.reduceLE, Int.reduceLT, Nat.reduceLeDiff, UInt8.reduceToNat, ↓reduceIte, Nat.reduceEqDiff, Nat.reduceAdd, reduceCtorEq, Int.reduceToNat, clsL, clsS, clsC, Tryz.f194, e0, e1, e7, e8, hi2, hg, hgi, h0]
      refine ⟨_, ?_, i + 1, rfl, by omega, rfl, ?_⟩
      · omega
      rw [List.take_succ_eq_append_getElem hi3, List.mem_append]
      rintro (q | q)
      · exact hno q
      · rw [List.mem_singleton] at q
        exact h0 q
  · simp +contextual (disch := first | (simp only [facts, clsL, clsS, clsC, isPtrD]; done) | omega | (simp only [push_nx, put_nx, del_nx]; omega) | (refine Nat.le_antisymm ?_ ?_ <;> simp only [push_nx, put_nx, del_nx] <;> omega) | fail) only [wpy, facts, wpb, cst, wpk, wpl, forall_const, implies_true, false_implies, Int.reduceLE, Int.reduceLT, Nat.reduceLeDiff, UInt8.reduceToNat, ↓reduceIte, Nat.reduceEqDiff, Nat.reduceAdd, reduceCtorEq, Int.reduceToNat, clsL, clsS, clsC, Tryz.f194, e0, e1, e7, e8, hi2]
    obtain rfl : i = n := by omega
    exact ⟨_, rfl, by simp [hno]⟩
theorem conS_spec (ts : List (List Nat)) (t : List Nat) (b n m : Nat) (h : H) (hn : n ≤ ts.length) (hs : ts.length < 2 ^ 40) (hg : h.get b = some (.ro (ts.map V.str))) : Exact S.cfg 122 [.slice b 0 n m, .str t] h (bo (t ∈ ts.take n)) := by
  refine into Tryz.f122 _ Tryz.func122 (hS.own _ (by decide)) rfl rfl (by kernel_rfl) (by kernel_rfl) ?_
  simp +contextual (disch := first | (simp only [facts, clsL, clsS, clsC, isPtrD]; done) | omega | (simp only [push_nx, put_nx, del_nx]; omega) | (refine Nat.le_antisymm ?_ ?_ <;> simp only [push_nx, put_nx, del_nx] <;> omega) | fail) only [wpy, facts, wpb, cst, wpk, wpl, forall_const, implies_true, false_implies, Int.reduceLE, Int.reduceLT, Nat.reduceLeDiff, UInt8.reduceToNat, ↓reduceIte, Nat.reduceEqDiff, Nat.reduceAdd, reduceCtorEq, Int.reduceToNat, clsL, clsS, clsC, Tryz.f122]
  refine callF_of (idxS_spec hS ts t b n m h hn hs hg) (fun k q => q.elim) ?_
  rintro v h1 ⟨rfl, k, rfl, hk⟩
  simp +contextual (disch := first | (simp only [facts, clsL, clsS, clsC, isPtrD]; done) | omega | (simp only [push_nx, put_nx, del_nx]; omega) | (refine Nat.le_antisymm ?_ ?_ <;> simp only [push_nx, put_nx, del_nx] <;> omega) | fail) only [wpy, facts, wpb, cst, wpk, wpl, forall_const, implies_true, false_implies, Int.reduceLE, Int.reduceLT, Nat.reduceLeDiff, UInt8.reduceToNat, ↓reduceIte, Nat.reduceEqDiff, Nat.reduceAdd, reduceCtorEq, Int.reduceToNat, clsL, clsS, clsC, Tryz.f122]
  first | exact ⟨congrArg bo (propext hk), rfl⟩ | exact congrArg bo (propext hk)
theorem lplain_spec (s : List Nat) (hb : ∀ x ∈ s, x < 256) (h : H) : Pure S.cfg 74 [.str s] h fun v _ => v = bo (plainP s) := by
  refine into Tryz.f74 _ Tryz.func74 (hS.own _ (by decide)) rfl rfl (by kernel_rfl) (by kernel_rfl) ?_
  unfold plainP
  by_cases hl : s.length ≤ 64
  · simp +contextual (disch := first | (simp only [facts, clsL, clsS, clsC, isPtrD]; done) | omega | (simp only [push_nx, put_nx, del_nx]; omega) | (refine Nat.le_antisymm ?_ ?_ <;> simp only [push_nx, put_nx, del_nx] <;> omega) | fail) only [wpy, facts, wpb, cst, wpk, wpl, forall_const, implies_true, false_implies, Int.reduceLE, Int.reduceLT, Nat.reduceLeDiff, UInt8.reduceToNat, ↓reduceIte, Nat.reduceEqDiff, Nat.reduceAdd, reduceCtorEq, Int.reduceToNat, clsL, clsS, clsC, Tryz.f74, hl]
    refine callF_exact (conB_spec hS s _ _ _ _ _ _ rfl (by omega) (push_eq rfl)) ?_
    simp +contextual (disch := first | (simp only [facts, clsL, clsS, clsC, isPtrD]; done) | omega | (simp only [push_nx, put_nx, del_nx]; omega) | (refine Nat.le_antisymm ?_ ?_ <;> simp only [push_nx, put_nx, del_nx] <;> omega) | fail) only [wpy, facts, wpb, cst, wpk, wpl, forall_const, implies_true, false_implies, Int.reduceLE, Int.reduceLT, Nat.reduceLeDiff, UInt8.reduceToNat, ↓reduceIte, Nat.reduceEqDiff, Nat.reduceAdd, reduceCtorEq, Int.reduceToNat, clsL, clsS, clsC, Tryz.f74, hl]
    exact (Ext.refl h).push _
  · simp +contextual (disch := first | (simp only [facts, clsL, clsS, clsC, isPtrD]; done) | omega | (simp only [push_nx, put_nx, del_nx]; omega) | (refine Nat.le_antisymm ?_ ?_ <;> simp only [push_nx, put_nx, del_nx] <;> omega) | fail) only [wpy, facts, wpb, cst, wpk, wpl, forall_const, implies_true, false_implies, Int.reduceLE, Int.reduceLT, Nat.reduceLeDiff, UInt8.reduceToNat, ↓reduceIte, Nat.reduceEqDiff, Nat.reduceAdd, reduceCtorEq, Int.reduceToNat, clsL, clsS, clsC, Tryz.f74, hl]
    exact Ext.refl h
theorem rplain_spec (s : List Nat) (hs : s.length < 2 ^ 63) (h : H) : Exact S.cfg 195 [.str s] h (bo (plainP s)) := by
  refine into Tryz.f195 _ Tryz.func195 (hS.own _ (by decide)) rfl rfl (by kernel_rfl) (by kernel_rfl) ?_
  simp +contextual (disch := first | (simp only [facts, clsL, clsS, clsC, isPtrD]; done) | omega | (simp only [push_nx, put_nx, del_nx]; omega) | (refine Nat.le_antisymm ?_ ?_ <;> simp only [push_nx, put_nx, del_nx] <;> omega) | fail) only [wpy, facts, wpb, cst, wpk, wpl, forall_const, implies_true, false_implies, Int.reduceLE, Int.reduceLT, Nat.reduceLeDiff, UInt8.reduceToNat, ↓reduceIte, Nat.reduceEqDiff, Nat.reduceAdd, reduceCtorEq, Int.reduceToNat, clsL, clsS, clsC, Tryz.f195]
  refine run_loop (fun k env h' => ∃ i : Nat, k = s.length - i ∧ i ≤ s.length ∧ env 0 = .str s ∧ env 3 = .int .i64 i ∧ h' = h ∧ 0 ∉ s.take i) s.length ⟨0, ?_⟩ ?_
  · simp +contextual (disch := first | (simp only [facts, clsL, clsS, clsC, isPtrD]; done) | omega | (simp only [push_nx, put_nx, del_nx]; omega) | (refine Nat.le_antisymm ?_ ?_ <;> simp only [push_nx, put_nx, del_nx] <;> omega) | fail) only [wpy, facts, wpb, cst, wpk, wpl, forall_const, implies_true, false_implies, Int.reduceLE, Int.reduceLT, Nat.reduceLeDiff, UInt8.reduceToNat, ↓reduceIte, Nat.reduceEqDiff, Nat.reduceAdd, reduceCtorEq, Int.reduceToNat, clsL, clsS, clsC]
    simp
  rintro k env h' ⟨i, rfl, hi, e0, e3, rfl, hno⟩
  by_cases hin : i < s.length
  · have hg : s[i]? = some s[i] := List.getElem?_eq_getElem hin
    by_cases hz : s[i] = 0
    · have hp : plainP s = False := eq_false fun q => q.2 (hz ▸ List.getElem_mem hin)
      rw [hp]
      simp +contextual (disch := first | (simp only [facts, clsL, clsS, clsC, isPtrD]; done) | omega | (simp only [push_nx, put_nx, del_nx]; omega) | (refine Nat.le_antisymm ?_ ?_ <;> simp only [push_nx, put_nx, del_nx] <;> omega) | fail) only [wpy, facts, wpb, cst, wpk, wpl, forall_const, implies_true, false_implies, Int.reduceLE, Int.reduceLT, Nat.reduceLeDiff, UInt8.reduceToNat, ↓reduceIte, Nat.reduceEqDiff, Nat.reduceAdd, reduceCtorEq, Int.reduceToNat, clsL, clsS, clsC, Tryz.f195, e0, e3, hin, hg, hz, getD_at hin]
    · simp +contextual (disch := first | (simp only [facts, clsL, clsS, clsC, isPtrD]; done) | omega | (simp only [push_nx, put_nx, del_nx]; omega) | (refine Nat.le_antisymm ?_ ?_ <;> simp only [push_nx, put_nx, del_nx] <;> omega) | fail) only [wpy, facts, wpb, cst, wpk, wpl, forall_const, implies_true, false_implies, Int.reduceLE, Int.reduceLT, Nat.reduceLeDiff, UInt8.reduceToNat, ↓reduceIte, Nat.reduceEqDiff, Nat.reduceAdd, reduceCtorEq, Int.reduceToNat, clsL, clsS, clsC, Tryz.f195, e0, e3, hin, hg, hz, getD_at hin]
      refine ⟨_, ?_, i + 1, rfl, by omega, rfl, ?_⟩
      · omega
      rw [List.take_succ_eq_append_getElem hin, List.mem_append]
      rintro (q | q)
      · exact hno q
      · rw [List.mem_singleton] at q
        exact hz q.symm
  · obtain rfl : i = s.length := by omega
    rw [List.take_of_length_le (Nat.le_refl _)] at hno
    have hp : plainP s = (s.length ≤ 64) := by unfold plainP; simp [hno]
    rw [hp]
    simp +contextual (disch := first | (simp only [facts, clsL, clsS, clsC, isPtrD]; done) | omega | (simp only [push_nx, put_nx, del_nx]; omega) | (refine Nat.le_antisymm ?_ ?_ <;> simp only [push_nx, put_nx, del_nx] <;> omega) | fail) only [wpy, facts, wpb, cst, wpk, wpl, forall_const, implies_true, false_implies, Int.reduceLE, Int.reduceLT, Nat.reduceLeDiff, UInt8.reduceToNat, ↓reduceIte, Nat.reduceEqDiff, Nat.reduceAdd, reduceCtorEq, Int.reduceToNat, clsL, clsS, clsC, Tryz.f195, e0, e3, hin]
theorem lcheck_spec (u : UR) (ok : URok u) (h : H) : Pure S.cfg 116 [.agg u.cells] h fun v _ => v = .int .i64 (userE u) := by
  refine into Tryz.f116 _ Tryz.func116 (hS.own _ (by decide)) rfl rfl (by kernel_rfl) (by kernel_rfl) ?_
  unfold UR.cells
  simp +contextual (disch := first | (simp only [facts, clsL, clsS, clsC, isPtrD]; done) | omega | (simp only [push_nx, put_nx, del_nx]; omega) | (refine Nat.le_antisymm ?_ ?_ <;> simp only [push_nx, put_nx, del_nx] <;> omega) | fail) only [wpy, facts, wpb, cst, wpk, wpl, forall_const, implies_true, false_implies, Int.reduceLE, Int.reduceLT, Nat.reduceLeDiff, UInt8.reduceToNat, ↓reduceIte, Nat.reduceEqDiff, Nat.reduceAdd, reduceCtorEq, Int.reduceToNat, clsL, clsS, clsC, Tryz.f116]
  generalize hhA : H.push h _ = hA
  have hxA : Ext h hA := by rw [← hhA]; exact (Ext.refl h).push _
  have gA : hA.get h.nx = some (.cells u.cells 34 false) := by rw [← hhA]; exact push_eq rfl
  have nA : hA.nx = h.nx + 1 := by rw [← hhA]; rfl
  clear hhA
  by_cases h0 : u.n = []
  · have gA' := gA
    unfold UR.cells at gA'
    rw [userE_no fun q => q.1 h0]
    simp +contextual (disch := first | (simp only [facts, clsL, clsS, clsC, isPtrD]; done) | omega | (simp only [push_nx, put_nx, del_nx]; omega) | (refine Nat.le_antisymm ?_ ?_ <;> simp only [push_nx, put_nx, del_nx] <;> omega) | fail) only [wpy, facts, wpb, cst, wpk, wpl, forall_const, implies_true, false_implies, Int.reduceLE, Int.reduceLT, Nat.reduceLeDiff, UInt8.reduceToNat, ↓reduceIte, Nat.reduceEqDiff, Nat.reduceAdd, reduceCtorEq, Int.reduceToNat, clsL, clsS, clsC, Tryz.f116, gA', h0]
    exact hxA
  have gA' := gA
  unfold UR.cells at gA'
  simp +contextual (disch := first | (simp only [facts, clsL, clsS, clsC, isPtrD]; done) | omega | (simp only [push_nx, put_nx, del_nx]; omega) | (refine Nat.le_antisymm ?_ ?_ <;> simp only [push_nx, put_nx, del_nx] <;> omega) | fail) only [wpy, facts, wpb, cst, wpk, wpl, forall_const, implies_true, false_implies, Int.reduceLE, Int.reduceLT, Nat.reduceLeDiff, UInt8.reduceToNat, ↓reduceIte, Nat.reduceEqDiff, Nat.reduceAdd, reduceCtorEq, Int.reduceToNat, clsL, clsS, clsC, Tryz.f116, gA', h0]
  refine callF_pure (lplain_spec hS u.n ok.bn _) ?_
  rintro _ h1 hx1 rfl
  have g1 := (hx1.2 h.nx (by omega)).trans gA'
  have n1 := hx1.1
  by_cases p1 : ¬ plainP u.n
  · rw [userE_no fun q => p1 q.2.1]
    simp +contextual (disch := first | (simp only [facts, clsL, clsS, clsC, isPtrD]; done) | omega | (simp only [push_nx, put_nx, del_nx]; omega) | (refine Nat.le_antisymm ?_ ?_ <;> simp only [push_nx, put_nx, del_nx] <;> omega) | fail) only [wpy, facts, wpb, cst, wpk, wpl, forall_const, implies_true, false_implies, Int.reduceLE, Int.reduceLT, Nat.reduceLeDiff, UInt8.reduceToNat, ↓reduceIte, Nat.reduceEqDiff, Nat.reduceAdd, reduceCtorEq, Int.reduceToNat, clsL, clsS, clsC, Tryz.f116, g1, p1]
    exact hxA.trans hx1
  have p1 := Classical.not_not.1 p1
  simp +contextual (disch := first | (simp only [facts, clsL, clsS, clsC, isPtrD]; done) | omega | (simp only [push_nx, put_nx, del_nx]; omega) | (refine Nat.le_antisymm ?_ ?_ <;> simp only [push_nx, put_nx, del_nx] <;> omega) | fail) only [wpy, facts, wpb, cst, wpk, wpl, forall_const, implies_true, false_implies, Int.reduceLE, Int.reduceLT, Nat.reduceLeDiff, UInt8.reduceToNat, ↓reduceIte, Nat.reduceEqDiff, Nat.reduceAdd, reduceCtorEq, Int.reduceToNat, clsL, clsS, clsC, Tryz.f116, g1, p1]
  refine callF_pure (lplain_spec hS u.p ok.bp _) ?_
  rintro _ h2 hx2 rfl
  have g2 := (hx2.2 h.nx (by omega)).trans g1
  have n2 := hx2.1
  by_cases p2 : ¬ plainP u.p
  · rw [userE_no fun q => p2 q.2.2.1]
    simp +contextual (disch := first | (simp only [facts, clsL, clsS, clsC, isPtrD]; done) | omega | (simp only [push_nx, put_nx, del_nx]; omega) | (refine Nat.le_antisymm ?_ ?_ <;> simp only [push_nx, put_nx, del_nx] <;> omega) | fail) only [wpy, facts, wpb, cst, wpk, wpl, forall_const, implies_true, false_implies, Int.reduceLE, Int.reduceLT, Nat.reduceLeDiff, UInt8.reduceToNat, ↓reduceIte, Nat.reduceEqDiff, Nat.reduceAdd, reduceCtorEq, Int.reduceToNat, clsL, clsS, clsC, Tryz.f116, g2, p2]
    exact (hxA.trans hx1).trans hx2
  have p2 := Classical.not_not.1 p2
  simp +contextual (disch := first | (simp only [facts, clsL, clsS, clsC, isPtrD]; done) | omega | (simp only [push_nx, put_nx, del_nx]; omega) | (refine Nat.le_antisymm ?_ ?_ <;> simp only [push_nx, put_nx, del_nx] <;> omega) | fail) only [wpy, facts, wpb, cst, wpk, wpl, forall_const, implies_true, false_implies, Int.reduceLE, Int.reduceLT, Nat.reduceLeDiff, UInt8.reduceToNat, ↓reduceIte, Nat.reduceEqDiff, Nat.reduceAdd, reduceCtorEq, Int.reduceToNat, clsL, clsS, clsC, Tryz.f116, g2, p2]
  refine callF_pure (lplain_spec hS u.s ok.bs _) ?_
  rintro _ h3 hx3 rfl
  have g3 := (hx3.2 h.nx (by omega)).trans g2
  have hx := ((hxA.trans hx1).trans hx2).trans hx3
  by_cases p3 : ¬ plainP u.s
  · rw [userE_no fun q => p3 q.2.2.2.1]
    simp +contextual (disch := first | (simp only [facts, clsL, clsS, clsC, isPtrD]; done) | omega | (simp only [push_nx, put_nx, del_nx]; omega) | (refine Nat.le_antisymm ?_ ?_ <;> simp only [push_nx, put_nx, del_nx] <;> omega) | fail) only [wpy, facts, wpb, cst, wpk, wpl, forall_const, implies_true, false_implies, Int.reduceLE, Int.reduceLT, Nat.reduceLeDiff, UInt8.reduceToNat, ↓reduceIte, Nat.reduceEqDiff, Nat.reduceAdd, reduceCtorEq, Int.reduceToNat, clsL, clsS, clsC, Tryz.f116, g3, p3]
    exact hx
  have p3 := Classical.not_not.1 p3
  by_cases p4 : u.g = natT
  · rw [userE_yes ⟨h0, p1, p2, p3, .inl p4⟩]
    unfold natT at p4
    simp +contextual (disch := first | (simp only [facts, clsL, clsS, clsC, isPtrD]; done) | omega | (simp only [push_nx, put_nx, del_nx]; omega) | (refine Nat.le_antisymm ?_ ?_ <;> simp only [push_nx, put_nx, del_nx] <;> omega) | fail) only [wpy, facts, wpb, cst, wpk, wpl, forall_const, implies_true, false_implies, Int.reduceLE, Int.reduceLT, Nat.reduceLeDiff, UInt8.reduceToNat, ↓reduceIte, Nat.reduceEqDiff, Nat.reduceAdd, reduceCtorEq, Int.reduceToNat, clsL, clsS, clsC, Tryz.f116, g3, p3, p4]
    exact hx
  by_cases p5 : u.g = fastT
  · rw [userE_yes ⟨h0, p1, p2, p3, .inr p5⟩]
    unfold natT at p4
    unfold fastT at p5
    simp +contextual (disch := first | (simp only [facts, clsL, clsS, clsC, isPtrD]; done) | omega | (simp only [push_nx, put_nx, del_nx]; omega) | (refine Nat.le_antisymm ?_ ?_ <;> simp only [push_nx, put_nx, del_nx] <;> omega) | fail) only [wpy, facts, wpb, cst, wpk, wpl, forall_const, implies_true, false_implies, Int.reduceLE, Int.reduceLT, Nat.reduceLeDiff, UInt8.reduceToNat, ↓reduceIte, Nat.reduceEqDiff, Nat.reduceAdd, reduceCtorEq, Int.reduceToNat, clsL, clsS, clsC, Tryz.f116, g3, p3, p4, p5]
    exact hx
  · rw [userE_no fun q => q.2.2.2.2.elim p4 p5]
    unfold natT at p4
    unfold fastT at p5
    simp +contextual (disch := first | (simp only [facts, clsL, clsS, clsC, isPtrD]; done) | omega | (simp only [push_nx, put_nx, del_nx]; omega) | (refine Nat.le_antisymm ?_ ?_ <;> simp only [push_nx, put_nx, del_nx] <;> omega) | fail) only [wpy, facts, wpb, cst, wpk, wpl, forall_const, implies_true, false_implies, Int.reduceLE, Int.reduceLT, Nat.reduceLeDiff, UInt8.reduceToNat, ↓reduceIte, Nat.reduceEqDiff, Nat.reduceAdd, reduceCtorEq, Int.reduceToNat, clsL, clsS, clsC, Tryz.f116, g3, p3, p4, p5]
    exact hx
theorem rcheck_spec (u : UR) (ok : URok u) (h : H) : Pure S.cfg 123 [.agg u.cells] h fun v _ => v = .int .i64 (userE u) := by
  refine into Tryz.f123 _ Tryz.func123 (hS.own _ (by decide)) rfl rfl (by kernel_rfl) (by kernel_rfl) ?_
  unfold UR.cells
  simp +contextual (disch := first | (simp only [facts, clsL, clsS, clsC, isPtrD]; done) | omega | (simp only [push_nx, put_nx, del_nx]; omega) | (refine Nat.le_antisymm ?_ ?_ <;> simp only [push_nx, put_nx, del_nx] <;> omega) | fail) only [wpy, facts, wpb, cst, wpk, wpl, forall_const, implies_true, false_implies, Int.reduceLE, Int.reduceLT, Nat.reduceLeDiff, UInt8.reduceToNat, ↓reduceIte, Nat.reduceEqDiff, Nat.reduceAdd, reduceCtorEq, Int.reduceToNat, clsL, clsS, clsC, Tryz.f123]
  generalize hhA : H.push h _ = hA
  have hxA : Ext h hA := by rw [← hhA]; exact (Ext.refl h).push _
  have gA : hA.get h.nx = some (.cells u.cells 34 false) := by rw [← hhA]; exact push_eq rfl
  have nA : hA.nx = h.nx + 1 := by rw [← hhA]; rfl
  clear hhA
  by_cases h0 : u.n = []
  · have gA' := gA
    unfold UR.cells at gA'
    rw [userE_no fun q => q.1 h0]
    simp +contextual (disch := first | (simp only [facts, clsL, clsS, clsC, isPtrD]; done) | omega | (simp only [push_nx, put_nx, del_nx]; omega) | (refine Nat.le_antisymm ?_ ?_ <;> simp only [push_nx, put_nx, del_nx] <;> omega) | fail) only [wpy, facts, wpb, cst, wpk, wpl, forall_const, implies_true, false_implies, Int.reduceLE, Int.reduceLT, Nat.reduceLeDiff, UInt8.reduceToNat, ↓reduceIte, Nat.reduceEqDiff, Nat.reduceAdd, reduceCtorEq, Int.reduceToNat, clsL, clsS, clsC, Tryz.f123, gA', h0]
    exact hxA
  have gA' := gA
  unfold UR.cells at gA'
  simp +contextual (disch := first | (simp only [facts, clsL, clsS, clsC, isPtrD]; done) | omega | (simp only [push_nx, put_nx, del_nx]; omega) | (refine Nat.le_antisymm ?_ ?_ <;> simp only [push_nx, put_nx, del_nx] <;> omega) | fail) only [wpy, facts, wpb, cst, wpk, wpl, forall_const, implies_true, false_implies, Int.reduceLE, Int.reduceLT, Nat.reduceLeDiff, UInt8.reduceToNat, ↓reduceIte, Nat.reduceEqDiff, Nat.reduceAdd, reduceCtorEq, Int.reduceToNat, clsL, clsS, clsC, Tryz.f123, gA', h0]
  refine callF_pure (exact_pure (rplain_spec hS u.n ok.n _)) ?_
  rintro _ h1 hx1 rfl
  have g1 := (hx1.2 h.nx (by omega)).trans gA'
  have n1 := hx1.1
  by_cases p1 : ¬ plainP u.n
  · rw [userE_no fun q => p1 q.2.1]
    simp +contextual (disch := first | (simp only [facts, clsL, clsS, clsC, isPtrD]; done) | omega | (simp only [push_nx, put_nx, del_nx]; omega) | (refine Nat.le_antisymm ?_ ?_ <;> simp only [push_nx, put_nx, del_nx] <;> omega) | fail) only [wpy, facts, wpb, cst, wpk, wpl, forall_const, implies_true, false_implies, Int.reduceLE, Int.reduceLT, Nat.reduceLeDiff, UInt8.reduceToNat, ↓reduceIte, Nat.reduceEqDiff, Nat.reduceAdd, reduceCtorEq, Int.reduceToNat, clsL, clsS, clsC, Tryz.f123, g1, p1]
    exact hxA.trans hx1
  have p1 := Classical.not_not.1 p1
  simp +contextual (disch := first | (simp only [facts, clsL, clsS, clsC, isPtrD]; done) | omega | (simp only [push_nx, put_nx, del_nx]; omega) | (refine Nat.le_antisymm ?_ ?_ <;> simp only [push_nx, put_nx, del_nx] <;> omega) | fail) only [wpy, facts, wpb, cst, wpk, wpl, forall_const, implies_true, false_implies, Int.reduceLE, Int.reduceLT, Nat.reduceLeDiff, UInt8.reduceToNat, ↓reduceIte, Nat.reduceEqDiff, Nat.reduceAdd, reduceCtorEq, Int.reduceToNat, clsL, clsS, clsC, Tryz.f123, g1, p1]
  refine callF_pure (exact_pure (rplain_spec hS u.p ok.p _)) ?_
  rintro _ h2 hx2 rfl
  have g2 := (hx2.2 h.nx (by omega)).trans g1
  have n2 := hx2.1
  by_cases p2 : ¬ plainP u.p
  · rw [userE_no fun q => p2 q.2.2.1]
    simp +contextual (disch := first | (simp only [facts, clsL, clsS, clsC, isPtrD]; done) | omega | (simp only [push_nx, put_nx, del_nx]; omega) | (refine Nat.le_antisymm ?_ ?_ <;> simp only [push_nx, put_nx, del_nx] <;> omega) | fail) only [wpy, facts, wpb, cst, wpk, wpl, forall_const, implies_true, false_implies, Int.reduceLE, Int.reduceLT, Nat.reduceLeDiff, UInt8.reduceToNat, ↓reduceIte, Nat.reduceEqDiff, Nat.reduceAdd, reduceCtorEq, Int.reduceToNat, clsL, clsS, clsC, Tryz.f123, g2, p2]
    exact (hxA.trans hx1).trans hx2
  have p2 := Classical.not_not.1 p2
  simp +contextual (disch := first | (simp only [facts, clsL, clsS, clsC, isPtrD]; done) | omega | (simp only [push_nx, put_nx, del_nx]; omega) | (refine Nat.le_antisymm ?_ ?_ <;> simp only [push_nx, put_nx, del_nx] <;> omega) | fail) only [wpy, facts, wpb, cst, wpk, wpl, forall_const, implies_true, false_implies, Int.reduceLE, Int.reduceLT, Nat.reduceLeDiff, UInt8.reduceToNat, ↓reduceIte, Nat.reduceEqDiff, Nat.reduceAdd, reduceCtorEq, Int.reduceToNat, clsL, clsS, clsC, Tryz.f123, g2, p2]
  refine callF_pure (exact_pure (rplain_spec hS u.s ok.s _)) ?_
  rintro _ h3 hx3 rfl
  have g3 := (hx3.2 h.nx (by omega)).trans g2
  have hx := ((hxA.trans hx1).trans hx2).trans hx3
  by_cases p3 : ¬ plainP u.s
  · rw [userE_no fun q => p3 q.2.2.2.1]
    simp +contextual (disch := first | (simp only [facts, clsL, clsS, clsC, isPtrD]; done) | omega | (simp only [push_nx, put_nx, del_nx]; omega) | (refine Nat.le_antisymm ?_ ?_ <;> simp only [push_nx, put_nx, del_nx] <;> omega) | fail) only [wpy, facts, wpb, cst, wpk, wpl, forall_const, implies_true, false_implies, Int.reduceLE, Int.reduceLT, Nat.reduceLeDiff, UInt8.reduceToNat, ↓reduceIte, Nat.reduceEqDiff, Nat.reduceAdd, reduceCtorEq, Int.reduceToNat, clsL, clsS, clsC, Tryz.f123, g3, p3]
    exact hx
  have p3 := Classical.not_not.1 p3
  by_cases p4 : u.g = natT
  · rw [userE_yes ⟨h0, p1, p2, p3, .inl p4⟩]
    unfold natT at p4
    simp +contextual (disch := first | (simp only [facts, clsL, clsS, clsC, isPtrD]; done) | omega | (simp only [push_nx, put_nx, del_nx]; omega) | (refine Nat.le_antisymm ?_ ?_ <;> simp only [push_nx, put_nx, del_nx] <;> omega) | fail) only [wpy, facts, wpb, cst, wpk, wpl, forall_const, implies_true, false_implies, Int.reduceLE, Int.reduceLT, Nat.reduceLeDiff, UInt8.reduceToNat, ↓reduceIte, Nat.reduceEqDiff, Nat.reduceAdd, reduceCtorEq, Int.reduceToNat, clsL, clsS, clsC, Tryz.f123, g3, p3, p4]
    exact hx
  by_cases p5 : u.g = fastT
  · rw [userE_yes ⟨h0, p1, p2, p3, .inr p5⟩]
    unfold natT at p4
    unfold fastT at p5
    simp +contextual (disch := first | (simp only [facts, clsL, clsS, clsC, isPtrD]; done) | omega | (simp only [push_nx, put_nx, del_nx]; omega) | (refine Nat.le_antisymm ?_ ?_ <;> simp only [push_nx, put_nx, del_nx] <;> omega) | fail) only [wpy, facts, wpb, cst, wpk, wpl, forall_const, implies_true, false_implies, Int.reduceLE, Int.reduceLT, Nat.reduceLeDiff, UInt8.reduceToNat, ↓reduceIte, Nat.reduceEqDiff, Nat.reduceAdd, reduceCtorEq, Int.reduceToNat, clsL, clsS, clsC, Tryz.f123, g3, p3, p4, p5]
    exact hx
  · rw [userE_no fun q => q.2.2.2.2.elim p4 p5]
    unfold natT at p4
    unfold fastT at p5
    simp +contextual (disch := first | (simp only [facts, clsL, clsS, clsC, isPtrD]; done) | omega | (simp only [push_nx, put_nx, del_nx]; omega) | (refine Nat.le_antisymm ?_ ?_ <;> simp only [push_nx, put_nx, del_nx] <;> omega) | fail) only [wpy, facts, wpb, cst, wpk, wpl, forall_const, implies_true, false_implies, Int.reduceLE, Int.reduceLT, Nat.reduceLeDiff, UInt8.reduceToNat, ↓reduceIte, Nat.reduceEqDiff, Nat.reduceAdd, reduceCtorEq, Int.reduceToNat, clsL, clsS, clsC, Tryz.f123, g3, p3, p4, p5]
    exact hx
end
end Go.Proofs.YthhdkonpejmgcaaGreatDoor

/-
  The first packet of a door, by the program and by the document.
-/
set_option linter.unusedSimpArgs false
set_option linter.unusedVariables false
set_option linter.unusedSectionVars false
set_option linter.defProp false
set_option maxRecDepth 20000
set_option maxHeartbeats 2000000
namespace Go.Proofs.YthhdkonpejmgcaaGreatDoor
open Go.Proofs Go.Lx Go.Wx Go.IntWalk
noncomputable section
structure CapsOk (c : Int) : Prop where
  a : iAnd .u32 c 565760 = 565760
  b : iAnd .u32 c 33280 = 33280
  d : iAnd .u32 c 524288 = 524288
  e : ¬ iAnd .u32 c 512 = 0
  f : ¬ iAnd .u32 c 32768 = 0
  lo : 0 ≤ c ∧ c < 4294967296
def greetC (ver : List Nat) (nv : V) (c : Int) : List V := [.str ver, .int .u32 1, nv, .int .u32 c, .int .u8 45, .int .u16 2, .str natT]
theorem rep_one (v : V) : ∀ n, rep [v] n = List.replicate n v
  | 0 => rfl
  | n + 1 => by unfold rep; rw [rep_one v n]; rfl
section
variable {c : Cfg} {Ok : Nat → Prop} {env : Env} {h : H} {K : V → H → Fp → Prop}
theorem append_made {s x : Operand} {t tx : TypeId} {e bytes n0 n : Nat} {cells : List V} {sv : V} (hsv : evalE env s = sv) (hap : apI c.P t = some (e, 1, bytes)) (hz : ∀ e', c.P.underlying t = some (.slice e') → zeroT c.P e' = some (.int .u8 0)) (htx : ∃ d, c.P.underlying tx = some d ∧ isIntD d = true) (hs : Acc n0 h sv cells e 1) (hne : cells ≠ [])
    (hx : evalE env x = .int .i64 ((n : Nat) : Int)) (hn : 0 < n) (hroom : cells.length + n ≤ 65536) (hOk : ∀ k, n0 ≤ k → Ok k) (hn0 : n0 ≤ h.nx)
    (hK : ∀ v h' L, Acc n0 h' v (cells ++ List.replicate n (.int .u8 0)) e 1 → StaysBut sv h h' → (∀ le ∈ L, h.nx ≤ blkOf le ∨ ∃ n m, sv = .slice (blkOf le) 0 n m) → K v h' (.lg L)) : opW c Ok (.call ⟨.builtin .append, #[s, x], #[t, tx]⟩) env h K := by
  obtain ⟨dx, htx, hdi⟩ := htx
  rw [opW_builtin]
  unfold apI at hap
  cases hu : c.P.underlying t with
  | none => rw [hu] at hap; cases hap
  | some d =>
    rw [hu] at hap
    cases d <;> try (cases hap; done)
    rename_i e'
    have hz := hz e' hu
    simp only at hap
    cases h1 : szT c.P e' with
    | none => rw [h1] at hap; cases hap
    | some sz' =>
      cases h3 : (c.P.info? e').map (·.bytes) with
      | none => rw [h1, hz, h3] at hap; cases hap
      | some by' =>
        rw [h1, hz, h3] at hap
        simp only at hap
        cases hb : (Nat.beq (V.int .u8 0).cells.length sz' && Nat.ble by' 65536) with
        | false => rw [hb] at hap; cases hap
        | true =>
          rw [hb, cond_true] at hap
          simp only [Option.some.injEq, Prod.mk.injEq] at hap
          obtain ⟨rfl, rfl, rfl⟩ := hap
          simp only [Bool.and_eq_true] at hb
          have hr : ∀ j, j ≤ 65536 → roomy j by' = true := fun j hj => roomy_of (by omega) hb.2
          have e1 : builtinM c.P .append #[t, tx] (List.map (evalE env) [s, x]) = appendCore e' 1 by' (evalE env s) (List.replicate n (.int .u8 0)) n := by
            show appendM c.P t tx (evalE env s) (evalE env x) = _
            unfold appendM
            rw [hu, htx]
            simp only [h1, hz, h3, hb.1, cond_true, hdi, hx]
            rw [hr n (by omega), cond_true]
            show appendCore _ _ _ _ (rep [V.int .u8 0] n) n = _
            rw [rep_one]
          show goL h.nx Ok (builtinM c.P .append #[t, tx] (List.map (evalE env) [s, x])) h [] K
          rw [e1, hsv]
          have hn' : Nat.beq n 0 = false := by
            cases hb : Nat.beq n 0 with
            | false => rfl
            | true => have := Nat.eq_of_beq_eq_true hb; omega
          rcases hs with ⟨hv, q⟩ | ⟨b, k, hb0, hb1, hv, hk, hg, hcl⟩
          · exact absurd q hne
          · rw [hv]
            unfold appendCore
            simp only [hn', cond_false]
            have hcap : Nat.ble (k + n) k = false := by
              cases hb : Nat.ble (k + n) k with
              | false => rfl
              | true => have := Nat.le_of_ble_eq_true hb; omega
            rw [hcap, cond_false, hr (k + n) (by omega), cond_true]
            unfold growM
            rw [goL_blk]
            refine ⟨cells, e', true, hg, ?_⟩
            simp only
            rw [goL_ld]
            refine ⟨cells, ?_, ?_⟩
            · rw [hg]
              unfold rdC
              simp only [Nat.zero_add, hcl, Nat.ble_self_eq_true, cond_true]
              rw [sub_whole hcl]
            · have he : Nat.beq e' e' = true := Nat.beq_refl e'
              have hc : (List.replicate n (V.int .u8 0)).all V.isCell = true := by simp [V.isCell]
              rw [he, hc]
              simp only [Bool.and_self, cond_true]
              rw [goL_kill]
              refine ⟨cells, e', true, hg, ?_⟩
              rw [goL_alloc, goL_ret]
              refine ⟨?_, hK _ _ _ (.inr ⟨h.nx, k + n, hn0, Nat.lt_succ_self _, rfl, by omega, ?_, ?_⟩) ⟨Nat.le_succ _, fun j hj hne => ?_⟩ fun le hle => ?_⟩
              · rw [LogOk_cons_wrd, LogOk_cons_wrd, LogOk_cons_rdd, LogOk_cons_rd, LogOk_cons_rdd]
                exact ⟨.inl (Nat.le_refl _), .inr (hOk b hb0), LogOk_nil⟩
              · show ((h.del b).push _).get (h.del b).nx = _
                rw [push_get, if_pos rfl]
              · rw [List.length_append, hcl, List.length_replicate, Nat.add_mul, Nat.mul_one, Nat.mul_one]
              · show ((h.del b).push _).get j = _
                rw [push_get_lt (by exact hj), del_get, if_neg (fun e => hne 0 k k (by rw [hv, e]))]
              · simp only [List.mem_cons, List.not_mem_nil, or_false] at hle
                rcases hle with rfl | rfl | rfl | rfl | rfl
                · exact .inl (Nat.le_refl _)
                · exact .inr ⟨_, _, hv⟩
                · exact .inr ⟨_, _, hv⟩
                · exact .inr ⟨_, _, hv⟩
                · exact .inr ⟨_, _, hv⟩
end
section
variable {c : Cfg} {Ok : Nat → Prop} {env : Env} {h1 : H} {K : V → H → Fp → Prop}
theorem app_txt {s x : Operand} {n0 : Nat} {l bs : List Nat} {sv : V} {t tx : TypeId} (hap : apI c.P t = some (5, 1, 1)) (htx : ∃ d, c.P.underlying tx = some d ∧ isIntD d = false) (hsv : evalE env s = sv) (hxv : evalE env x = .str bs) (hs : LB n0 h1 sv l) (hne : l ≠ []) (hl : l.length + bs.length ≤ 65536 * 32) (hOk : ∀ k, n0 ≤ k → Ok k) (hn0 : n0 ≤ h1.nx)
    (hK : ∀ v h' L, LB n0 h' v (l ++ bs) → h1.nx ≤ h'.nx → (∀ k, k < n0 → h'.get k = h1.get k) → (∀ le ∈ L, h1.nx ≤ blkOf le ∨ ∃ o n m, sv = .slice (blkOf le) o n m) → K v h' (.lg L)) : opW c Ok (.call ⟨.builtin .append, #[s, x], #[t, tx]⟩) env h1 K := by
  have ha := hs.acc hne
  by_cases h0 : bs = []
  · subst h0
    refine append_str0 (sv := sv) hsv ?_ hap htx hxv (hK _ _ _ (by rw [List.append_nil]; exact hs) (Nat.le_refl _) (fun _ _ => rfl) fun le hle => by cases hle)
    rcases ha with ⟨q, _⟩ | ⟨b, n, _, _, q, _⟩
    · exact .inl q
    · exact .inr ⟨_, _, _, _, q⟩
  refine append_strV (sv := sv) (bs := bs) hsv hap htx ha hxv (List.length_pos_iff.2 h0) (by rw [bytesV_length]; omega) hOk ?_ hn0
  intro v2 h2 L2 ha2 hs2 hL2
  rw [← bytesV_app] at ha2
  exact hK v2 h2 L2 (.inl ha2) hs2.1 (fun k hk => hs2.2 k (by omega) fun o n m q => ha.ne hk q) fun le hle => (hL2 le hle).imp id fun ⟨n, m, q⟩ => ⟨_, n, m, q⟩
end
theorem rw_built {h : H} {cs : List V} {ts : List (List Nat)} {n : Nat} (hc : cs = ts.map V.str) (hn : ts.length = n) : RW 9 1 ts.length (h.push (.cells cs 9 false)) (.slice h.nx 0 n n) (ts.map V.str) := by
  subst hc
  subst hn
  exact ⟨by rw [List.length_map, Nat.mul_one], .inr ⟨h.nx, 0, ts.length, rfl, Nat.lt_succ_self _, Nat.le_refl _, by rw [push_eq rfl]; exact rdC_all (by rw [List.length_map, Nat.mul_one]), fun kc e' fl w hf => by rw [push_eq rfl] at w; cases w; cases hf⟩⟩
theorem rd_cl0 {n0 n1 k o m : Nat} (h : k < n0) : fpApart (.lg [.rd k o m]) (.cl n0 n1 nil1) := fun e he => by rw [List.mem_singleton.1 he]; exact ⟨rfl, .inr h, fun q => q.elim⟩
theorem zer27 : ∀ e', Tryz.prog.underlying 27 = some (.slice e') → zeroT Tryz.prog e' = some (.int .u8 0) := fun e' h => by
  rw [ubs] at h
  cases h
  kernel_rfl
theorem tx3 : ∃ d, Tryz.prog.underlying 3 = some d ∧ isIntD d = true := ⟨.int .i64, by kernel_rfl, rfl⟩
theorem bytesV_zeros (n : Nat) : List.replicate n (V.int .u8 0) = bytesV (List.replicate n 0) := by simp [bytesV]
theorem no_idx {l : List Nat} {c : Nat} (h : c ∉ l) : ¬ 0 ≤ idxNats l c := fun q => h ((idx_mem l c).2.1 q)
theorem is_idx {l : List Nat} {c : Nat} (h : c ∈ l) : 0 ≤ idxNats l c := (idx_mem l c).2.2 h
variable {S : Set0} (hS : StdU S)
include hS
theorem has_spec (c x : Int) (h : H) : Exact S.cfg 186 [.int .u32 c, .int .u32 x] h (bo (iAnd .u32 c x = x)) := by
  refine into Tryz.f186 _ Tryz.func186 (hS.own _ (by decide)) rfl rfl (by kernel_rfl) (by kernel_rfl) ?_
  simp +contextual (disch := first | (simp only [facts, clsL, clsS, clsC, isPtrD]; done) | omega | (simp only [push_nx, put_nx, del_nx]; omega) | (refine Nat.le_antisymm ?_ ?_ <;> simp only [push_nx, put_nx, del_nx] <;> omega) | fail) only [wpy, facts, wpb, cst, wpk, wpl, forall_const, implies_true, false_implies, Int.reduceLE, Int.reduceLT, Nat.reduceLeDiff, UInt8.reduceToNat, ↓reduceIte, Nat.reduceEqDiff, Nat.reduceAdd, reduceCtorEq, Int.reduceToNat, clsL, clsS, clsC, Tryz.f186]
theorem rhas_spec (c x : Int) (h : H) : Exact S.cfg 199 [.int .u32 c, .int .u32 x] h (bo (¬ iAnd .u32 c x = 0)) := by
  refine into Tryz.f199 _ Tryz.func199 (hS.own _ (by decide)) rfl rfl (by kernel_rfl) (by kernel_rfl) ?_
  simp +contextual (disch := first | (simp only [facts, clsL, clsS, clsC, isPtrD]; done) | omega | (simp only [push_nx, put_nx, del_nx]; omega) | (refine Nat.le_antisymm ?_ ?_ <;> simp only [push_nx, put_nx, del_nx] <;> omega) | fail) only [wpy, facts, wpb, cst, wpk, wpl, forall_const, implies_true, false_implies, Int.reduceLE, Int.reduceLT, Nat.reduceLeDiff, UInt8.reduceToNat, ↓reduceIte, Nat.reduceEqDiff, Nat.reduceAdd, reduceCtorEq, Int.reduceToNat, clsL, clsS, clsC, Tryz.f199]
theorem rbase_spec {c : Int} (hc : CapsOk c) (h : H) : Exact S.cfg 294 [.int .u32 c] h (bo True) := by
  refine into Tryz.f294 _ Tryz.func294 (hS.own _ (by decide)) rfl rfl (by kernel_rfl) (by kernel_rfl) ?_
  simp +contextual (disch := first | (simp only [facts, clsL, clsS, clsC, isPtrD]; done) | omega | (simp only [push_nx, put_nx, del_nx]; omega) | (refine Nat.le_antisymm ?_ ?_ <;> simp only [push_nx, put_nx, del_nx] <;> omega) | fail) only [wpy, facts, wpb, cst, wpk, wpl, forall_const, implies_true, false_implies, Int.reduceLE, Int.reduceLT, Nat.reduceLeDiff, UInt8.reduceToNat, ↓reduceIte, Nat.reduceEqDiff, Nat.reduceAdd, reduceCtorEq, Int.reduceToNat, clsL, clsS, clsC, Tryz.f294]
  refine callF_exact (rhas_spec hS _ _ _) ?_
  simp +contextual (disch := first | (simp only [facts, clsL, clsS, clsC, isPtrD]; done) | omega | (simp only [push_nx, put_nx, del_nx]; omega) | (refine Nat.le_antisymm ?_ ?_ <;> simp only [push_nx, put_nx, del_nx] <;> omega) | fail) only [wpy, facts, wpb, cst, wpk, wpl, forall_const, implies_true, false_implies, Int.reduceLE, Int.reduceLT, Nat.reduceLeDiff, UInt8.reduceToNat, ↓reduceIte, Nat.reduceEqDiff, Nat.reduceAdd, reduceCtorEq, Int.reduceToNat, clsL, clsS, clsC, Tryz.f294, hc.e]
  refine callF_exact (rhas_spec hS _ _ _) ?_
  simp +contextual (disch := first | (simp only [facts, clsL, clsS, clsC, isPtrD]; done) | omega | (simp only [push_nx, put_nx, del_nx]; omega) | (refine Nat.le_antisymm ?_ ?_ <;> simp only [push_nx, put_nx, del_nx] <;> omega) | fail) only [wpy, facts, wpb, cst, wpk, wpl, forall_const, implies_true, false_implies, Int.reduceLE, Int.reduceLT, Nat.reduceLeDiff, UInt8.reduceToNat, ↓reduceIte, Nat.reduceEqDiff, Nat.reduceAdd, reduceCtorEq, Int.reduceToNat, clsL, clsS, clsC, Tryz.f294, hc.e, hc.f]
theorem scheck_spec {v : V} {l : List Nat} {h : H} (a : BS 5 h v l) (hl : NonceOk l) : Exact S.cfg 280 [v] h (.int .i64 0) := by
  refine into Tryz.f280 _ Tryz.func280 (hS.own _ (by decide)) rfl rfl (by kernel_rfl) (by kernel_rfl) ?_
  have a1 := a.len 5
  rw [hl.1] at a1
  have z0 := no_idx (l := l) (c := 0) fun q => by have := hl.2 0 q; omega
  have z1 := no_idx (l := l) (c := 36) fun q => by have := hl.2 36 q; omega
  simp +contextual (disch := first | (simp only [facts, clsL, clsS, clsC, isPtrD]; done) | omega | (simp only [push_nx, put_nx, del_nx]; omega) | (refine Nat.le_antisymm ?_ ?_ <;> simp only [push_nx, put_nx, del_nx] <;> omega) | fail) only [wpy, facts, wpb, cst, wpk, wpl, forall_const, implies_true, false_implies, Int.reduceLE, Int.reduceLT, Nat.reduceLeDiff, UInt8.reduceToNat, ↓reduceIte, Nat.reduceEqDiff, Nat.reduceAdd, reduceCtorEq, Int.reduceToNat, clsL, clsS, clsC, Tryz.f280, a1]
  refine callF_exact (bidx_spec hS a 0 (by decide)) ?_
  simp +contextual (disch := first | (simp only [facts, clsL, clsS, clsC, isPtrD]; done) | omega | (simp only [push_nx, put_nx, del_nx]; omega) | (refine Nat.le_antisymm ?_ ?_ <;> simp only [push_nx, put_nx, del_nx] <;> omega) | fail) only [wpy, facts, wpb, cst, wpk, wpl, forall_const, implies_true, false_implies, Int.reduceLE, Int.reduceLT, Nat.reduceLeDiff, UInt8.reduceToNat, ↓reduceIte, Nat.reduceEqDiff, Nat.reduceAdd, reduceCtorEq, Int.reduceToNat, clsL, clsS, clsC, Tryz.f280, a1, z0]
  refine callF_exact (bidx_spec hS a 36 (by decide)) ?_
  simp +contextual (disch := first | (simp only [facts, clsL, clsS, clsC, isPtrD]; done) | omega | (simp only [push_nx, put_nx, del_nx]; omega) | (refine Nat.le_antisymm ?_ ?_ <;> simp only [push_nx, put_nx, del_nx] <;> omega) | fail) only [wpy, facts, wpb, cst, wpk, wpl, forall_const, implies_true, false_implies, Int.reduceLE, Int.reduceLT, Nat.reduceLeDiff, UInt8.reduceToNat, ↓reduceIte, Nat.reduceEqDiff, Nat.reduceAdd, reduceCtorEq, Int.reduceToNat, clsL, clsS, clsC, Tryz.f280, a1, z0, z1]
theorem rscheck_spec {v : V} {l : List Nat} {h : H} (a : BS 5 h v l) (hl : NonceOk l) : Exact S.cfg 293 [v] h (.int .i64 0) := by
  refine into Tryz.f293 _ Tryz.func293 (hS.own _ (by decide)) rfl rfl (by kernel_rfl) (by kernel_rfl) ?_
  have a1 := a.len 5
  rw [hl.1] at a1
  simp +contextual (disch := first | (simp only [facts, clsL, clsS, clsC, isPtrD]; done) | omega | (simp only [push_nx, put_nx, del_nx]; omega) | (refine Nat.le_antisymm ?_ ?_ <;> simp only [push_nx, put_nx, del_nx] <;> omega) | fail) only [wpy, facts, wpb, cst, wpk, wpl, forall_const, implies_true, false_implies, Int.reduceLE, Int.reduceLT, Nat.reduceLeDiff, UInt8.reduceToNat, ↓reduceIte, Nat.reduceEqDiff, Nat.reduceAdd, reduceCtorEq, Int.reduceToNat, clsL, clsS, clsC, Tryz.f293, a1]
  refine run_loop (fun k env h' => ∃ i : Nat, k = 20 - i ∧ i ≤ 20 ∧ env 0 = v ∧ env 3 = .int .i64 i ∧ h' = h) 20 ⟨0, ?_⟩ ?_
  · simp +contextual (disch := first | (simp only [facts, clsL, clsS, clsC, isPtrD]; done) | omega | (simp only [push_nx, put_nx, del_nx]; omega) | (refine Nat.le_antisymm ?_ ?_ <;> simp only [push_nx, put_nx, del_nx] <;> omega) | fail) only [wpy, facts, wpb, cst, wpk, wpl, forall_const, implies_true, false_implies, Int.reduceLE, Int.reduceLT, Nat.reduceLeDiff, UInt8.reduceToNat, ↓reduceIte, Nat.reduceEqDiff, Nat.reduceAdd, reduceCtorEq, Int.reduceToNat, clsL, clsS, clsC]
  rintro k env h' ⟨i, rfl, hi, e0, e3, rfl⟩
  by_cases hin : i < 20
  · have hil : i < l.length := by rw [hl.1]; exact hin
    obtain ⟨b, o, m, rfl, _, hr⟩ := a.at hil
    rw [getD_at hil] at hr
    have q := hl.2 _ (List.getElem_mem hil)
    have q0 : ¬ l[i] = 0 := by omega
    have q1 : ¬ l[i] = 36 := by omega
    have q0' : ¬ ((l[i] : Nat) : Int) = 0 := by omega
    have q1' : ¬ ((l[i] : Nat) : Int) = 36 := by omega
    simp +contextual (disch := first | (simp only [facts, clsL, clsS, clsC, isPtrD]; done) | omega | (simp only [push_nx, put_nx, del_nx]; omega) | (refine Nat.le_antisymm ?_ ?_ <;> simp only [push_nx, put_nx, del_nx] <;> omega) | fail) only [wpy, facts, wpb, cst, wpk, wpl, forall_const, implies_true, false_implies, Int.reduceLE, Int.reduceLT, Nat.reduceLeDiff, UInt8.reduceToNat, ↓reduceIte, Nat.reduceEqDiff, Nat.reduceAdd, reduceCtorEq, Int.reduceToNat, clsL, clsS, clsC, Tryz.f293, e0, e3, a1, hin, hil, hr, q0, q1, q0', q1']
    exact ⟨20 - (i + 1), by omega, i + 1, rfl, by omega, rfl⟩
  · obtain rfl : i = 20 := by omega
    simp +contextual (disch := first | (simp only [facts, clsL, clsS, clsC, isPtrD]; done) | omega | (simp only [push_nx, put_nx, del_nx]; omega) | (refine Nat.le_antisymm ?_ ?_ <;> simp only [push_nx, put_nx, del_nx] <;> omega) | fail) only [wpy, facts, wpb, cst, wpk, wpl, forall_const, implies_true, false_implies, Int.reduceLE, Int.reduceLT, Nat.reduceLeDiff, UInt8.reduceToNat, ↓reduceIte, Nat.reduceEqDiff, Nat.reduceAdd, reduceCtorEq, Int.reduceToNat, clsL, clsS, clsC, Tryz.f293, e0, e3, a1, hin]
theorem gplain_spec {v : V} {ts : List (List Nat)} {h : H} (a : RW 9 1 ts.length h v (ts.map V.str)) (hl : ts.length < 2 ^ 30) : Exact S.cfg 279 [v] h (bo (∀ t ∈ ts, 0 ∉ t)) := by
  refine into Tryz.f279 _ Tryz.func279 (hS.own _ (by decide)) rfl rfl (by kernel_rfl) (by kernel_rfl) ?_
  have a1 := a.len 9
  simp +contextual (disch := first | (simp only [facts, clsL, clsS, clsC, isPtrD]; done) | omega | (simp only [push_nx, put_nx, del_nx]; omega) | (refine Nat.le_antisymm ?_ ?_ <;> simp only [push_nx, put_nx, del_nx] <;> omega) | fail) only [wpy, facts, wpb, cst, wpk, wpl, forall_const, implies_true, false_implies, Int.reduceLE, Int.reduceLT, Nat.reduceLeDiff, UInt8.reduceToNat, ↓reduceIte, Nat.reduceEqDiff, Nat.reduceAdd, reduceCtorEq, Int.reduceToNat, clsL, clsS, clsC, Tryz.f279, a1]
  refine run_loop (fun k env h' => ∃ i : Nat, k = ts.length - i ∧ i ≤ ts.length ∧ env 5 = v ∧ env 6 = .int .i64 ts.length ∧ env 7 = .int .i64 i ∧ h' = h ∧ ∀ t ∈ ts.take i, 0 ∉ t) ts.length ⟨0, ?_⟩ ?_
  · simp +contextual (disch := first | (simp only [facts, clsL, clsS, clsC, isPtrD]; done) | omega | (simp only [push_nx, put_nx, del_nx]; omega) | (refine Nat.le_antisymm ?_ ?_ <;> simp only [push_nx, put_nx, del_nx] <;> omega) | fail) only [wpy, facts, wpb, cst, wpk, wpl, forall_const, implies_true, false_implies, Int.reduceLE, Int.reduceLT, Nat.reduceLeDiff, UInt8.reduceToNat, ↓reduceIte, Nat.reduceEqDiff, Nat.reduceAdd, reduceCtorEq, Int.reduceToNat, clsL, clsS, clsC]
    exact ⟨rfl, fun t ht => by simp at ht⟩
  rintro k env h' ⟨i, rfl, hi, e5, e6, e7, rfl, hno⟩
  by_cases hin : i < ts.length
  · obtain ⟨b, o, m, rfl⟩ := a.at (by omega)
    obtain ⟨_, hb, hr, _⟩ := a.rd
    have hri := hr i 1 (by rw [List.length_map]; exact hin)
    rw [List.getElem_map] at hri
    simp +contextual (disch := first | (simp only [facts, clsL, clsS, clsC, isPtrD]; done) | omega | (simp only [push_nx, put_nx, del_nx]; omega) | (refine Nat.le_antisymm ?_ ?_ <;> simp only [push_nx, put_nx, del_nx] <;> omega) | fail) only [wpy, facts, wpb, cst, wpk, wpl, forall_const, implies_true, false_implies, Int.reduceLE, Int.reduceLT, Nat.reduceLeDiff, UInt8.reduceToNat, ↓reduceIte, Nat.reduceEqDiff, Nat.reduceAdd, reduceCtorEq, Int.reduceToNat, clsL, clsS, clsC, Tryz.f279, e5, e6, e7, hin, hri]
    refine callF_exact (sidx_spec hS ts[i] 0 (by decide) _) ?_
    by_cases hz : 0 ∈ ts[i]
    · have z := is_idx hz
      have hf : (∀ t ∈ ts, 0 ∉ t) = False := eq_false fun q => q _ (List.getElem_mem hin) hz
      rw [hf]
      simp +contextual (disch := first | (simp only [facts, clsL, clsS, clsC, isPtrD]; done) | omega | (simp only [push_nx, put_nx, del_nx]; omega) | (refine Nat.le_antisymm ?_ ?_ <;> simp only [push_nx, put_nx, del_nx] <;> omega) | fail) only [wpy, facts, wpb, cst, wpk, wpl, forall_const, implies_true, false_implies, Int.reduceLE, Int.reduceLT, Nat.reduceLeDiff, UInt8.reduceToNat, ↓reduceIte, Nat.reduceEqDiff, Nat.reduceAdd, reduceCtorEq, Int.reduceToNat, clsL, clsS, clsC, Tryz.f279, e5, e6, e7, hin, z]
    · have z := no_idx hz
      simp +contextual (disch := first | (simp only [facts, clsL, clsS, clsC, isPtrD]; done) | omega | (simp only [push_nx, put_nx, del_nx]; omega) | (refine Nat.le_antisymm ?_ ?_ <;> simp only [push_nx, put_nx, del_nx] <;> omega) | fail) only [wpy, facts, wpb, cst, wpk, wpl, forall_const, implies_true, false_implies, Int.reduceLE, Int.reduceLT, Nat.reduceLeDiff, UInt8.reduceToNat, ↓reduceIte, Nat.reduceEqDiff, Nat.reduceAdd, reduceCtorEq, Int.reduceToNat, clsL, clsS, clsC, Tryz.f279, e5, e6, e7, hin, z]
      refine ⟨ts.length - (i + 1), by omega, i + 1, rfl, by omega, rfl, fun t ht => ?_⟩
      rw [List.take_succ_eq_append_getElem hin, List.mem_append, List.mem_singleton] at ht
      rcases ht with ht | rfl
      · exact hno t ht
      · exact hz
  · obtain rfl : i = ts.length := by omega
    rw [List.take_of_length_le (Nat.le_refl _)] at hno
    rw [eq_true hno]
    simp +contextual (disch := first | (simp only [facts, clsL, clsS, clsC, isPtrD]; done) | omega | (simp only [push_nx, put_nx, del_nx]; omega) | (refine Nat.le_antisymm ?_ ?_ <;> simp only [push_nx, put_nx, del_nx] <;> omega) | fail) only [wpy, facts, wpb, cst, wpk, wpl, forall_const, implies_true, false_implies, Int.reduceLE, Int.reduceLT, Nat.reduceLeDiff, UInt8.reduceToNat, ↓reduceIte, Nat.reduceEqDiff, Nat.reduceAdd, reduceCtorEq, Int.reduceToNat, clsL, clsS, clsC, Tryz.f279, e5, e6, e7, hin]
theorem rplainT_spec (s : List Nat) (hs : s.length < 2 ^ 62) (h : H) : Exact S.cfg 292 [.str s] h (bo (0 ∉ s)) := by
  refine into Tryz.f292 _ Tryz.func292 (hS.own _ (by decide)) rfl rfl (by kernel_rfl) (by kernel_rfl) ?_
  simp +contextual (disch := first | (simp only [facts, clsL, clsS, clsC, isPtrD]; done) | omega | (simp only [push_nx, put_nx, del_nx]; omega) | (refine Nat.le_antisymm ?_ ?_ <;> simp only [push_nx, put_nx, del_nx] <;> omega) | fail) only [wpy, facts, wpb, cst, wpk, wpl, forall_const, implies_true, false_implies, Int.reduceLE, Int.reduceLT, Nat.reduceLeDiff, UInt8.reduceToNat, ↓reduceIte, Nat.reduceEqDiff, Nat.reduceAdd, reduceCtorEq, Int.reduceToNat, clsL, clsS, clsC, Tryz.f292]
  refine run_loop (fun k env h' => ∃ i : Nat, k = s.length - i ∧ i ≤ s.length ∧ env 0 = .str s ∧ env 3 = .int .i64 i ∧ h' = h ∧ 0 ∉ s.take i) s.length ⟨0, ?_⟩ ?_
  · simp +contextual (disch := first | (simp only [facts, clsL, clsS, clsC, isPtrD]; done) | omega | (simp only [push_nx, put_nx, del_nx]; omega) | (refine Nat.le_antisymm ?_ ?_ <;> simp only [push_nx, put_nx, del_nx] <;> omega) | fail) only [wpy, facts, wpb, cst, wpk, wpl, forall_const, implies_true, false_implies, Int.reduceLE, Int.reduceLT, Nat.reduceLeDiff, UInt8.reduceToNat, ↓reduceIte, Nat.reduceEqDiff, Nat.reduceAdd, reduceCtorEq, Int.reduceToNat, clsL, clsS, clsC]
    simp
  rintro k env h' ⟨i, rfl, hi, e0, e3, rfl, hno⟩
  by_cases hin : i < s.length
  · have hg : s[i]? = some s[i] := List.getElem?_eq_getElem hin
    by_cases hz : s[i] = 0
    · rw [eq_false fun q : 0 ∉ s => q (hz ▸ List.getElem_mem hin)]
      simp +contextual (disch := first | (simp only [facts, clsL, clsS, clsC, isPtrD]; done) | omega | (simp only [push_nx, put_nx, del_nx]; omega) | (refine Nat.le_antisymm ?_ ?_ <;> simp only [push_nx, put_nx, del_nx] <;> omega) | fail) only [wpy, facts, wpb, cst, wpk, wpl, forall_const, implies_true, false_implies, Int.reduceLE, Int.reduceLT, Nat.reduceLeDiff, UInt8.reduceToNat, ↓reduceIte, Nat.reduceEqDiff, Nat.reduceAdd, reduceCtorEq, Int.reduceToNat, clsL, clsS, clsC, Tryz.f292, e0, e3, hin, hg, hz, getD_at hin]
    · simp +contextual (disch := first | (simp only [facts, clsL, clsS, clsC, isPtrD]; done) | omega | (simp only [push_nx, put_nx, del_nx]; omega) | (refine Nat.le_antisymm ?_ ?_ <;> simp only [push_nx, put_nx, del_nx] <;> omega) | fail) only [wpy, facts, wpb, cst, wpk, wpl, forall_const, implies_true, false_implies, Int.reduceLE, Int.reduceLT, Nat.reduceLeDiff, UInt8.reduceToNat, ↓reduceIte, Nat.reduceEqDiff, Nat.reduceAdd, reduceCtorEq, Int.reduceToNat, clsL, clsS, clsC, Tryz.f292, e0, e3, hin, hg, hz, getD_at hin]
      refine ⟨_, ?_, i + 1, rfl, by omega, rfl, ?_⟩
      · omega
      rw [List.take_succ_eq_append_getElem hin, List.mem_append]
      rintro (q | q)
      · exact hno q
      · rw [List.mem_singleton] at q
        exact hz q.symm
  · obtain rfl : i = s.length := by omega
    rw [List.take_of_length_le (Nat.le_refl _)] at hno
    rw [eq_true hno]
    simp +contextual (disch := first | (simp only [facts, clsL, clsS, clsC, isPtrD]; done) | omega | (simp only [push_nx, put_nx, del_nx]; omega) | (refine Nat.le_antisymm ?_ ?_ <;> simp only [push_nx, put_nx, del_nx] <;> omega) | fail) only [wpy, facts, wpb, cst, wpk, wpl, forall_const, implies_true, false_implies, Int.reduceLE, Int.reduceLT, Nat.reduceLeDiff, UInt8.reduceToNat, ↓reduceIte, Nat.reduceEqDiff, Nat.reduceAdd, reduceCtorEq, Int.reduceToNat, clsL, clsS, clsC, Tryz.f292, e0, e3, hin]
theorem aended_spec {v : V} {l : List Nat} {h : H} (a : BS 5 h v l) (hl : l.length < 2 ^ 20) (hne : l ≠ []) (t : List Nat) (ht : t.length < 65536) (h0 : 0 ∉ t) : Pure S.cfg 281 [v, .str t] h fun w h' => ∃ lv, w = .tuple [lv, .int .i64 0] ∧ LB h.nx h' lv (l ++ t ++ [0]) := by
  refine into Tryz.f281 _ Tryz.func281 (hS.own _ (by decide)) rfl rfl (by kernel_rfl) (by kernel_rfl) ?_
  simp +contextual (disch := first | (simp only [facts, clsL, clsS, clsC, isPtrD]; done) | omega | (simp only [push_nx, put_nx, del_nx]; omega) | (refine Nat.le_antisymm ?_ ?_ <;> simp only [push_nx, put_nx, del_nx] <;> omega) | fail) only [wpy, facts, wpb, cst, wpk, wpl, forall_const, implies_true, false_implies, Int.reduceLE, Int.reduceLT, Nat.reduceLeDiff, UInt8.reduceToNat, ↓reduceIte, Nat.reduceEqDiff, Nat.reduceAdd, reduceCtorEq, Int.reduceToNat, clsL, clsS, clsC, Tryz.f281]
  refine callF_exact (sidx_spec hS t 0 (by decide) _) ?_
  have z := no_idx h0
  simp +contextual (disch := first | (simp only [facts, clsL, clsS, clsC, isPtrD]; done) | omega | (simp only [push_nx, put_nx, del_nx]; omega) | (refine Nat.le_antisymm ?_ ?_ <;> simp only [push_nx, put_nx, del_nx] <;> omega) | fail) only [wpy, facts, wpb, cst, wpk, wpl, forall_const, implies_true, false_implies, Int.reduceLE, Int.reduceLT, Nat.reduceLeDiff, UInt8.reduceToNat, ↓reduceIte, Nat.reduceEqDiff, Nat.reduceAdd, reduceCtorEq, Int.reduceToNat, clsL, clsS, clsC, Tryz.f281, z]
  refine callF_pure (bclone_spec hS a (by omega)) ?_
  intro w1 h1 hx1 hl1
  have n1 := hx1.1
  simp +contextual (disch := first | (simp only [facts, clsL, clsS, clsC, isPtrD]; done) | omega | (simp only [push_nx, put_nx, del_nx]; omega) | (refine Nat.le_antisymm ?_ ?_ <;> simp only [push_nx, put_nx, del_nx] <;> omega) | fail) only [wpy, facts, wpb, cst, wpk, wpl, forall_const, implies_true, false_implies, Int.reduceLE, Int.reduceLT, Nat.reduceLeDiff, UInt8.reduceToNat, ↓reduceIte, Nat.reduceEqDiff, Nat.reduceAdd, reduceCtorEq, Int.reduceToNat, clsL, clsS, clsC, Tryz.f281]
  refine app_txt (n0 := h.nx) (bs := t) ap27 tx9 (by simp +contextual (disch := first | (simp only [facts, clsL, clsS, clsC, isPtrD]; done) | omega | (simp only [push_nx, put_nx, del_nx]; omega) | (refine Nat.le_antisymm ?_ ?_ <;> simp only [push_nx, put_nx, del_nx] <;> omega) | fail) only [wpy, facts, wpb, cst, wpk, wpl, forall_const, implies_true, false_implies, Int.reduceLE, Int.reduceLT, Nat.reduceLeDiff, UInt8.reduceToNat, ↓reduceIte, Nat.reduceEqDiff, Nat.reduceAdd, reduceCtorEq, Int.reduceToNat, clsL, clsS, clsC]) (by simp +contextual (disch := first | (simp only [facts, clsL, clsS, clsC, isPtrD]; done) | omega | (simp only [push_nx, put_nx, del_nx]; omega) | (refine Nat.le_antisymm ?_ ?_ <;> simp only [push_nx, put_nx, del_nx] <;> omega) | fail) only [wpy, facts, wpb, cst, wpk, wpl, forall_const, implies_true, false_implies, Int.reduceLE, Int.reduceLT, Nat.reduceLeDiff, UInt8.reduceToNat, ↓reduceIte, Nat.reduceEqDiff, Nat.reduceAdd, reduceCtorEq, Int.reduceToNat, clsL, clsS, clsC]) hl1 hne (by omega) (fun k hk => by rw [fresh_def]; exact .inl hk) (by omega) ?_
  intro v2 h2 L2 hl2 hn2 hk2 hL2
  simp +contextual (disch := first | (simp only [facts, clsL, clsS, clsC, isPtrD]; done) | omega | (simp only [push_nx, put_nx, del_nx]; omega) | (refine Nat.le_antisymm ?_ ?_ <;> simp only [push_nx, put_nx, del_nx] <;> omega) | fail) only [wpy, facts, wpb, cst, wpk, wpl, forall_const, implies_true, false_implies, Int.reduceLE, Int.reduceLT, Nat.reduceLeDiff, UInt8.reduceToNat, ↓reduceIte, Nat.reduceEqDiff, Nat.reduceAdd, reduceCtorEq, Int.reduceToNat, clsL, clsS, clsC, Tryz.f281]
  refine app_one (n0 := h.nx) (cc := 0) ap27 tx27 (by simp +contextual (disch := first | (simp only [facts, clsL, clsS, clsC, isPtrD]; done) | omega | (simp only [push_nx, put_nx, del_nx]; omega) | (refine Nat.le_antisymm ?_ ?_ <;> simp only [push_nx, put_nx, del_nx] <;> omega) | fail) only [wpy, facts, wpb, cst, wpk, wpl, forall_const, implies_true, false_implies, Int.reduceLE, Int.reduceLT, Nat.reduceLeDiff, UInt8.reduceToNat, ↓reduceIte, Nat.reduceEqDiff, Nat.reduceAdd, reduceCtorEq, Int.reduceToNat, clsL, clsS, clsC]) (by simp +contextual (disch := first | (simp only [facts, clsL, clsS, clsC, isPtrD]; done) | omega | (simp only [push_nx, put_nx, del_nx]; omega) | (refine Nat.le_antisymm ?_ ?_ <;> simp only [push_nx, put_nx, del_nx] <;> omega) | fail) only [wpy, facts, wpb, cst, wpk, wpl, forall_const, implies_true, false_implies, Int.reduceLE, Int.reduceLT, Nat.reduceLeDiff, UInt8.reduceToNat, ↓reduceIte, Nat.reduceEqDiff, Nat.reduceAdd, reduceCtorEq, Int.reduceToNat, clsL, clsS, clsC]) rfl hl2 (by rw [List.length_append]; omega) (fun k hk => by rw [fresh_def]; exact .inl hk) (by omega) ?_
  intro v3 h3 L3 hl3 hn3 hk3 hL3
  simp +contextual (disch := first | (simp only [facts, clsL, clsS, clsC, isPtrD]; done) | omega | (simp only [push_nx, put_nx, del_nx]; omega) | (refine Nat.le_antisymm ?_ ?_ <;> simp only [push_nx, put_nx, del_nx] <;> omega) | fail) only [wpy, facts, wpb, cst, wpk, wpl, forall_const, implies_true, false_implies, Int.reduceLE, Int.reduceLT, Nat.reduceLeDiff, UInt8.reduceToNat, ↓reduceIte, Nat.reduceEqDiff, Nat.reduceAdd, reduceCtorEq, Int.reduceToNat, clsL, clsS, clsC, Tryz.f281]
  exact ⟨⟨by omega, fun k hk => by rw [hk3 k hk, hk2 k hk, hx1.2 k hk]⟩, _, rfl, hl3⟩
theorem ended_spec {v : V} {l : List Nat} {h : H} (a : BS 5 h v l) (hl : l.length < 2 ^ 20) (hne : l ≠ []) (t : List Nat) (ht : t.length < 65536) (h0 : 0 ∉ t) : Pure S.cfg 183 [v, .str t] h fun w h' => LB h.nx h' w (l ++ t ++ [0]) := by
  refine into Tryz.f183 _ Tryz.func183 (hS.own _ (by decide)) rfl rfl (by kernel_rfl) (by kernel_rfl) ?_
  simp +contextual (disch := first | (simp only [facts, clsL, clsS, clsC, isPtrD]; done) | omega | (simp only [push_nx, put_nx, del_nx]; omega) | (refine Nat.le_antisymm ?_ ?_ <;> simp only [push_nx, put_nx, del_nx] <;> omega) | fail) only [wpy, facts, wpb, cst, wpk, wpl, forall_const, implies_true, false_implies, Int.reduceLE, Int.reduceLT, Nat.reduceLeDiff, UInt8.reduceToNat, ↓reduceIte, Nat.reduceEqDiff, Nat.reduceAdd, reduceCtorEq, Int.reduceToNat, clsL, clsS, clsC, Tryz.f183]
  refine callF_pure (aended_spec hS a hl hne t ht h0) ?_
  rintro _ h1 hx1 ⟨lv, rfl, hlv⟩
  simp +contextual (disch := first | (simp only [facts, clsL, clsS, clsC, isPtrD]; done) | omega | (simp only [push_nx, put_nx, del_nx]; omega) | (refine Nat.le_antisymm ?_ ?_ <;> simp only [push_nx, put_nx, del_nx] <;> omega) | fail) only [wpy, facts, wpb, cst, wpk, wpl, forall_const, implies_true, false_implies, Int.reduceLE, Int.reduceLT, Nat.reduceLeDiff, UInt8.reduceToNat, ↓reduceIte, Nat.reduceEqDiff, Nat.reduceAdd, reduceCtorEq, Int.reduceToNat, clsL, clsS, clsC, Tryz.f183]
  exact ⟨hx1, hlv⟩
theorem raended_spec {v : V} {l : List Nat} {h : H} (a : BS 5 h v l) (hl : l.length < 2 ^ 20) (hne : l ≠ []) (t : List Nat) (ht : t.length < 65536) (h0 : 0 ∉ t) : Pure S.cfg 295 [v, .str t] h fun w h' => ∃ lv, w = .tuple [lv, .int .i64 0] ∧ LB h.nx h' lv (l ++ t ++ [0]) := by
  refine into Tryz.f295 _ Tryz.func295 (hS.own _ (by decide)) rfl rfl (by kernel_rfl) (by kernel_rfl) ?_
  simp +contextual (disch := first | (simp only [facts, clsL, clsS, clsC, isPtrD]; done) | omega | (simp only [push_nx, put_nx, del_nx]; omega) | (refine Nat.le_antisymm ?_ ?_ <;> simp only [push_nx, put_nx, del_nx] <;> omega) | fail) only [wpy, facts, wpb, cst, wpk, wpl, forall_const, implies_true, false_implies, Int.reduceLE, Int.reduceLT, Nat.reduceLeDiff, UInt8.reduceToNat, ↓reduceIte, Nat.reduceEqDiff, Nat.reduceAdd, reduceCtorEq, Int.reduceToNat, clsL, clsS, clsC, Tryz.f295]
  refine run_blk_cut (fun env h' => h' = h ∧ env 0 = v ∧ env 1 = .str t) ?_ ?_
  · refine run_loop (fun k env h' => ∃ i : Nat, k = t.length - i ∧ i ≤ t.length ∧ env 0 = v ∧ env 1 = .str t ∧ env 6 = .int .i64 i ∧ h' = h) t.length ⟨0, ?_⟩ ?_
    · simp +contextual (disch := first | (simp only [facts, clsL, clsS, clsC, isPtrD]; done) | omega | (simp only [push_nx, put_nx, del_nx]; omega) | (refine Nat.le_antisymm ?_ ?_ <;> simp only [push_nx, put_nx, del_nx] <;> omega) | fail) only [wpy, facts, wpb, cst, wpk, wpl, forall_const, implies_true, false_implies, Int.reduceLE, Int.reduceLT, Nat.reduceLeDiff, UInt8.reduceToNat, ↓reduceIte, Nat.reduceEqDiff, Nat.reduceAdd, reduceCtorEq, Int.reduceToNat, clsL, clsS, clsC]
      rfl
    rintro k env h' ⟨i, rfl, hi, e0, e1, e6, rfl⟩
    by_cases hin : i < t.length
    · have hg : t[i]? = some t[i] := List.getElem?_eq_getElem hin
      have hz : ¬ t[i] = 0 := fun q => h0 (q ▸ List.getElem_mem hin)
      simp +contextual (disch := first | (simp only [facts, clsL, clsS, clsC, isPtrD]; done) | omega | (simp only [push_nx, put_nx, del_nx]; omega) | (refine Nat.le_antisymm ?_ ?_ <;> simp only [push_nx, put_nx, del_nx] <;> omega) | fail) only [wpy, facts, wpb, cst, wpk, wpl, forall_const, implies_true, false_implies, Int.reduceLE, Int.reduceLT, Nat.reduceLeDiff, UInt8.reduceToNat, ↓reduceIte, Nat.reduceEqDiff, Nat.reduceAdd, reduceCtorEq, Int.reduceToNat, clsL, clsS, clsC, Tryz.f295, e0, e1, e6, hin, hg, hz, getD_at hin]
      exact ⟨_, by omega, i + 1, rfl, by omega, rfl⟩
    · simp +contextual (disch := first | (simp only [facts, clsL, clsS, clsC, isPtrD]; done) | omega | (simp only [push_nx, put_nx, del_nx]; omega) | (refine Nat.le_antisymm ?_ ?_ <;> simp only [push_nx, put_nx, del_nx] <;> omega) | fail) only [wpy, facts, wpb, cst, wpk, wpl, forall_const, implies_true, false_implies, Int.reduceLE, Int.reduceLT, Nat.reduceLeDiff, UInt8.reduceToNat, ↓reduceIte, Nat.reduceEqDiff, Nat.reduceAdd, reduceCtorEq, Int.reduceToNat, clsL, clsS, clsC, Tryz.f295, e0, e1, e6, hin]
  rintro env h1 ⟨rfl, e0, e1⟩
  simp +contextual (disch := first | (simp only [facts, clsL, clsS, clsC, isPtrD]; done) | omega | (simp only [push_nx, put_nx, del_nx]; omega) | (refine Nat.le_antisymm ?_ ?_ <;> simp only [push_nx, put_nx, del_nx] <;> omega) | fail) only [wpy, facts, wpb, cst, wpk, wpl, forall_const, implies_true, false_implies, Int.reduceLE, Int.reduceLT, Nat.reduceLeDiff, UInt8.reduceToNat, ↓reduceIte, Nat.reduceEqDiff, Nat.reduceAdd, reduceCtorEq, Int.reduceToNat, clsL, clsS, clsC, Tryz.f295, e0, e1]
  generalize hhA : H.push h1 _ = hA
  have hxA : Ext h1 hA := by rw [← hhA]; exact (Ext.refl h1).push _
  have gA : hA.get h1.nx = some (.cells [] 5 false) := by rw [← hhA]; exact push_eq rfl
  have nA : hA.nx = h1.nx + 1 := by rw [← hhA]; rfl
  clear hhA
  refine append_lst (n0 := h1.nx) (sv := .slice h1.nx 0 0 0) (xv := v) (cells := []) (new := bytesV l) (by simp +contextual (disch := first | (simp only [facts, clsL, clsS, clsC, isPtrD]; done) | omega | (simp only [push_nx, put_nx, del_nx]; omega) | (refine Nat.le_antisymm ?_ ?_ <;> simp only [push_nx, put_nx, del_nx] <;> omega) | fail) only [wpy, facts, wpb, cst, wpk, wpl, forall_const, implies_true, false_implies, Int.reduceLE, Int.reduceLT, Nat.reduceLeDiff, UInt8.reduceToNat, ↓reduceIte, Nat.reduceEqDiff, Nat.reduceAdd, reduceCtorEq, Int.reduceToNat, clsL, clsS, clsC]) (by simp +contextual (disch := first | (simp only [facts, clsL, clsS, clsC, isPtrD]; done) | omega | (simp only [push_nx, put_nx, del_nx]; omega) | (refine Nat.le_antisymm ?_ ?_ <;> simp only [push_nx, put_nx, del_nx] <;> omega) | fail) only [wpy, facts, wpb, cst, wpk, wpl, forall_const, implies_true, false_implies, Int.reduceLE, Int.reduceLT, Nat.reduceLeDiff, UInt8.reduceToNat, ↓reduceIte, Nat.reduceEqDiff, Nat.reduceAdd, reduceCtorEq, Int.reduceToNat, clsL, clsS, clsC, e0]) ap27 tx27 (.inr ⟨rfl, h1.nx, Nat.le_refl _, by omega, rfl, gA⟩) (a.ext hxA).src (bytesV_all _) ?_ (by decide) (fun k hk => by rw [fresh_def]; exact .inl hk) (by omega) ?_
  · rw [bytesV_length]; simp only [List.length_nil]; omega
  intro w2 h2 L2 hl2 hn2 hk2 hf2 hL2
  rw [List.nil_append] at hl2
  simp +contextual (disch := first | (simp only [facts, clsL, clsS, clsC, isPtrD]; done) | omega | (simp only [push_nx, put_nx, del_nx]; omega) | (refine Nat.le_antisymm ?_ ?_ <;> simp only [push_nx, put_nx, del_nx] <;> omega) | fail) only [wpy, facts, wpb, cst, wpk, wpl, forall_const, implies_true, false_implies, Int.reduceLE, Int.reduceLT, Nat.reduceLeDiff, UInt8.reduceToNat, ↓reduceIte, Nat.reduceEqDiff, Nat.reduceAdd, reduceCtorEq, Int.reduceToNat, clsL, clsS, clsC, Tryz.f295, e0, e1]
  refine app_txt (n0 := h1.nx) (bs := t) ap27 tx9 (by simp +contextual (disch := first | (simp only [facts, clsL, clsS, clsC, isPtrD]; done) | omega | (simp only [push_nx, put_nx, del_nx]; omega) | (refine Nat.le_antisymm ?_ ?_ <;> simp only [push_nx, put_nx, del_nx] <;> omega) | fail) only [wpy, facts, wpb, cst, wpk, wpl, forall_const, implies_true, false_implies, Int.reduceLE, Int.reduceLT, Nat.reduceLeDiff, UInt8.reduceToNat, ↓reduceIte, Nat.reduceEqDiff, Nat.reduceAdd, reduceCtorEq, Int.reduceToNat, clsL, clsS, clsC]) (by simp +contextual (disch := first | (simp only [facts, clsL, clsS, clsC, isPtrD]; done) | omega | (simp only [push_nx, put_nx, del_nx]; omega) | (refine Nat.le_antisymm ?_ ?_ <;> simp only [push_nx, put_nx, del_nx] <;> omega) | fail) only [wpy, facts, wpb, cst, wpk, wpl, forall_const, implies_true, false_implies, Int.reduceLE, Int.reduceLT, Nat.reduceLeDiff, UInt8.reduceToNat, ↓reduceIte, Nat.reduceEqDiff, Nat.reduceAdd, reduceCtorEq, Int.reduceToNat, clsL, clsS, clsC, e1]) hl2 hne (by omega) (fun k hk => by rw [fresh_def]; exact .inl hk) (by omega) ?_
  intro v3 h3 L3 hl3 hn3 hk3 hL3
  simp +contextual (disch := first | (simp only [facts, clsL, clsS, clsC, isPtrD]; done) | omega | (simp only [push_nx, put_nx, del_nx]; omega) | (refine Nat.le_antisymm ?_ ?_ <;> simp only [push_nx, put_nx, del_nx] <;> omega) | fail) only [wpy, facts, wpb, cst, wpk, wpl, forall_const, implies_true, false_implies, Int.reduceLE, Int.reduceLT, Nat.reduceLeDiff, UInt8.reduceToNat, ↓reduceIte, Nat.reduceEqDiff, Nat.reduceAdd, reduceCtorEq, Int.reduceToNat, clsL, clsS, clsC, Tryz.f295, e0, e1]
  refine app_one (n0 := h1.nx) (cc := 0) ap27 tx27 (by simp +contextual (disch := first | (simp only [facts, clsL, clsS, clsC, isPtrD]; done) | omega | (simp only [push_nx, put_nx, del_nx]; omega) | (refine Nat.le_antisymm ?_ ?_ <;> simp only [push_nx, put_nx, del_nx] <;> omega) | fail) only [wpy, facts, wpb, cst, wpk, wpl, forall_const, implies_true, false_implies, Int.reduceLE, Int.reduceLT, Nat.reduceLeDiff, UInt8.reduceToNat, ↓reduceIte, Nat.reduceEqDiff, Nat.reduceAdd, reduceCtorEq, Int.reduceToNat, clsL, clsS, clsC]) (by simp +contextual (disch := first | (simp only [facts, clsL, clsS, clsC, isPtrD]; done) | omega | (simp only [push_nx, put_nx, del_nx]; omega) | (refine Nat.le_antisymm ?_ ?_ <;> simp only [push_nx, put_nx, del_nx] <;> omega) | fail) only [wpy, facts, wpb, cst, wpk, wpl, forall_const, implies_true, false_implies, Int.reduceLE, Int.reduceLT, Nat.reduceLeDiff, UInt8.reduceToNat, ↓reduceIte, Nat.reduceEqDiff, Nat.reduceAdd, reduceCtorEq, Int.reduceToNat, clsL, clsS, clsC]) rfl hl3 (by rw [List.length_append]; omega) (fun k hk => by rw [fresh_def]; exact .inl hk) (by omega) ?_
  intro v4 h4 L4 hl4 hn4 hk4 hL4
  simp +contextual (disch := first | (simp only [facts, clsL, clsS, clsC, isPtrD]; done) | omega | (simp only [push_nx, put_nx, del_nx]; omega) | (refine Nat.le_antisymm ?_ ?_ <;> simp only [push_nx, put_nx, del_nx] <;> omega) | fail) only [wpy, facts, wpb, cst, wpk, wpl, forall_const, implies_true, false_implies, Int.reduceLE, Int.reduceLT, Nat.reduceLeDiff, UInt8.reduceToNat, ↓reduceIte, Nat.reduceEqDiff, Nat.reduceAdd, reduceCtorEq, Int.reduceToNat, clsL, clsS, clsC, Tryz.f295, e0, e1]
  exact ⟨⟨by omega, fun k hk => by rw [hk4 k hk, hk3 k hk, hf2 k hk, hxA.2 k hk]⟩, _, rfl, hl4⟩
theorem rended_spec {v : V} {l : List Nat} {h : H} (a : BS 5 h v l) (hl : l.length < 2 ^ 20) (hne : l ≠ []) (t : List Nat) (ht : t.length < 65536) (h0 : 0 ∉ t) : Pure S.cfg 197 [v, .str t] h fun w h' => LB h.nx h' w (l ++ t ++ [0]) := by
  refine into Tryz.f197 _ Tryz.func197 (hS.own _ (by decide)) rfl rfl (by kernel_rfl) (by kernel_rfl) ?_
  simp +contextual (disch := first | (simp only [facts, clsL, clsS, clsC, isPtrD]; done) | omega | (simp only [push_nx, put_nx, del_nx]; omega) | (refine Nat.le_antisymm ?_ ?_ <;> simp only [push_nx, put_nx, del_nx] <;> omega) | fail) only [wpy, facts, wpb, cst, wpk, wpl, forall_const, implies_true, false_implies, Int.reduceLE, Int.reduceLT, Nat.reduceLeDiff, UInt8.reduceToNat, ↓reduceIte, Nat.reduceEqDiff, Nat.reduceAdd, reduceCtorEq, Int.reduceToNat, clsL, clsS, clsC, Tryz.f197]
  refine callF_pure (raended_spec hS a hl hne t ht h0) ?_
  rintro _ h1 hx1 ⟨lv, rfl, hlv⟩
  simp +contextual (disch := first | (simp only [facts, clsL, clsS, clsC, isPtrD]; done) | omega | (simp only [push_nx, put_nx, del_nx]; omega) | (refine Nat.le_antisymm ?_ ?_ <;> simp only [push_nx, put_nx, del_nx] <;> omega) | fail) only [wpy, facts, wpb, cst, wpk, wpl, forall_const, implies_true, false_implies, Int.reduceLE, Int.reduceLT, Nat.reduceLeDiff, UInt8.reduceToNat, ↓reduceIte, Nat.reduceEqDiff, Nat.reduceAdd, reduceCtorEq, Int.reduceToNat, clsL, clsS, clsC, Tryz.f197]
  exact ⟨hx1, hlv⟩
theorem afixG_spec {v : V} {l : List Nat} {h : H} (a : BS 5 h v l) (hl : l.length < 2 ^ 27) (x : Int) (n : Nat) (hn : 1 ≤ n ∧ n ≤ 8) (hx : 0 ≤ x ∧ x < 256 ^ n) : Pure S.cfg 136 [v, .int .u64 x, .int .i64 n] h fun w h' => ∃ lv, w = .tuple [lv, .int .i64 0] ∧ LB h.nx h' lv (l ++ leB x n) := by
  refine into Tryz.f136 _ Tryz.func136 (hS.own _ (by decide)) rfl rfl (by kernel_rfl) (by kernel_rfl) ?_
  have n1 : ¬ n < 1 := by omega
  have n2 : ¬ 8 < n := by omega
  have s2 : IntKind.i64.wrap (8 * (n : Int)) = 8 * (n : Int) := i64_in _ (by omega)
  have s3 : ¬ (8 * (n : Int) < 0) := by omega
  have s1 : (n : Int) < 8 → iShr .u64 x (8 * (n : Int)) = 0 := fun q => by
    rw [iShr_pow (by omega)]
    exact Int.ediv_eq_zero_of_lt hx.1 hx.2
  simp +contextual (disch := first | (simp only [facts, clsL, clsS, clsC, isPtrD]; done) | omega | (simp only [push_nx, put_nx, del_nx]; omega) | (refine Nat.le_antisymm ?_ ?_ <;> simp only [push_nx, put_nx, del_nx] <;> omega) | fail) only [wpy, facts, wpb, cst, wpk, wpl, forall_const, implies_true, false_implies, Int.reduceLE, Int.reduceLT, Nat.reduceLeDiff, UInt8.reduceToNat, ↓reduceIte, Nat.reduceEqDiff, Nat.reduceAdd, reduceCtorEq, Int.reduceToNat, clsL, clsS, clsC, Tryz.f136, n1, n2, s2, s3, s1]
  refine callF_pure (bclone_spec hS a (by omega)) ?_
  intro w1 h1 hx1 hw1
  have n1 := hx1.1
  simp +contextual (disch := first | (simp only [facts, clsL, clsS, clsC, isPtrD]; done) | omega | (simp only [push_nx, put_nx, del_nx]; omega) | (refine Nat.le_antisymm ?_ ?_ <;> simp only [push_nx, put_nx, del_nx] <;> omega) | fail) only [wpy, facts, wpb, cst, wpk, wpl, forall_const, implies_true, false_implies, Int.reduceLE, Int.reduceLT, Nat.reduceLeDiff, UInt8.reduceToNat, ↓reduceIte, Nat.reduceEqDiff, Nat.reduceAdd, reduceCtorEq, Int.reduceToNat, clsL, clsS, clsC, Tryz.f136]
  refine run_loop (fun k env h' => ∃ i : Nat, k = n - i ∧ i ≤ n ∧ env 1 = .int .u64 x ∧ env 29 = .int .i64 n ∧ env 30 = .int .i64 i ∧ Ext h h' ∧ ∃ lv, env 8 = lv ∧ LB h.nx h' lv (l ++ (leB x n).take i)) n ⟨0, ?_⟩ ?_
  · simp +contextual (disch := first | (simp only [facts, clsL, clsS, clsC, isPtrD]; done) | omega | (simp only [push_nx, put_nx, del_nx]; omega) | (refine Nat.le_antisymm ?_ ?_ <;> simp only [push_nx, put_nx, del_nx] <;> omega) | fail) only [wpy, facts, wpb, cst, wpk, wpl, forall_const, implies_true, false_implies, Int.reduceLE, Int.reduceLT, Nat.reduceLeDiff, UInt8.reduceToNat, ↓reduceIte, Nat.reduceEqDiff, Nat.reduceAdd, reduceCtorEq, Int.reduceToNat, clsL, clsS, clsC]
    exact ⟨rfl, hx1, _, rfl, hw1⟩
  rintro k env h' ⟨i, rfl, hi, e1, e29, e30, hxx, lv, e8, hlv⟩
  have n2 := hxx.1
  by_cases hin : i < n
  · have w1 : IntKind.i64.wrap (8 * (i : Int)) = 8 * (i : Int) := i64_in _ (by omega)
    have w2 : ¬ (8 * (i : Int) < 0) := by omega
    have w3 := leB_at x n i hn.2 hin
    simp +contextual (disch := first | (simp only [facts, clsL, clsS, clsC, isPtrD]; done) | omega | (simp only [push_nx, put_nx, del_nx]; omega) | (refine Nat.le_antisymm ?_ ?_ <;> simp only [push_nx, put_nx, del_nx] <;> omega) | fail) only [wpy, facts, wpb, cst, wpk, wpl, forall_const, implies_true, false_implies, Int.reduceLE, Int.reduceLT, Nat.reduceLeDiff, UInt8.reduceToNat, ↓reduceIte, Nat.reduceEqDiff, Nat.reduceAdd, reduceCtorEq, Int.reduceToNat, clsL, clsS, clsC, Tryz.f136, e1, e29, e30, e8, hin, w1, w2, w3]
    refine app_one (n0 := h.nx) ap27 tx27 (by simp +contextual (disch := first | (simp only [facts, clsL, clsS, clsC, isPtrD]; done) | omega | (simp only [push_nx, put_nx, del_nx]; omega) | (refine Nat.le_antisymm ?_ ?_ <;> simp only [push_nx, put_nx, del_nx] <;> omega) | fail) only [wpy, facts, wpb, cst, wpk, wpl, forall_const, implies_true, false_implies, Int.reduceLE, Int.reduceLT, Nat.reduceLeDiff, UInt8.reduceToNat, ↓reduceIte, Nat.reduceEqDiff, Nat.reduceAdd, reduceCtorEq, Int.reduceToNat, clsL, clsS, clsC, e8]) (by simp +contextual (disch := first | (simp only [facts, clsL, clsS, clsC, isPtrD]; done) | omega | (simp only [push_nx, put_nx, del_nx]; omega) | (refine Nat.le_antisymm ?_ ?_ <;> simp only [push_nx, put_nx, del_nx] <;> omega) | fail) only [wpy, facts, wpb, cst, wpk, wpl, forall_const, implies_true, false_implies, Int.reduceLE, Int.reduceLT, Nat.reduceLeDiff, UInt8.reduceToNat, ↓reduceIte, Nat.reduceEqDiff, Nat.reduceAdd, reduceCtorEq, Int.reduceToNat, clsL, clsS, clsC]) rfl hlv ?_ (fun k hk => by rw [fresh_def]; exact .inl hk) (by omega) ?_
    · rw [List.length_append, List.length_take]; omega
    intro v2 h2 L2 hl2 hn2 hk2 hL2
    simp +contextual (disch := first | (simp only [facts, clsL, clsS, clsC, isPtrD]; done) | omega | (simp only [push_nx, put_nx, del_nx]; omega) | (refine Nat.le_antisymm ?_ ?_ <;> simp only [push_nx, put_nx, del_nx] <;> omega) | fail) only [wpy, facts, wpb, cst, wpk, wpl, forall_const, implies_true, false_implies, Int.reduceLE, Int.reduceLT, Nat.reduceLeDiff, UInt8.reduceToNat, ↓reduceIte, Nat.reduceEqDiff, Nat.reduceAdd, reduceCtorEq, Int.reduceToNat, clsL, clsS, clsC, Tryz.f136, e1, e29, e30]
    refine ⟨n - (i + 1), by omega, i + 1, rfl, by omega, rfl, ⟨by omega, fun k hk => by rw [hk2 k hk, hxx.2 k hk]⟩, ?_⟩
    rw [List.take_succ_eq_append_getElem (by rw [leB_len]; exact hin), ← List.append_assoc]
    exact ⟨_, rfl, hl2⟩
  · obtain rfl : i = n := by omega
    rw [List.take_of_length_le (by rw [leB_len]; exact Nat.le_refl _)] at hlv
    simp +contextual (disch := first | (simp only [facts, clsL, clsS, clsC, isPtrD]; done) | omega | (simp only [push_nx, put_nx, del_nx]; omega) | (refine Nat.le_antisymm ?_ ?_ <;> simp only [push_nx, put_nx, del_nx] <;> omega) | fail) only [wpy, facts, wpb, cst, wpk, wpl, forall_const, implies_true, false_implies, Int.reduceLE, Int.reduceLT, Nat.reduceLeDiff, UInt8.reduceToNat, ↓reduceIte, Nat.reduceEqDiff, Nat.reduceAdd, reduceCtorEq, Int.reduceToNat, clsL, clsS, clsC, Tryz.f136, e1, e29, e30, e8, hin]
    exact ⟨hxx, _, rfl, hlv⟩
theorem fixed_spec {v : V} {l : List Nat} {h : H} (a : BS 5 h v l) (hl : l.length < 2 ^ 27) (x : Int) (n : Nat) (hn : 1 ≤ n ∧ n ≤ 8) (hx : 0 ≤ x ∧ x < 256 ^ n) : Pure S.cfg 185 [v, .int .u64 x, .int .i64 n] h fun w h' => LB h.nx h' w (l ++ leB x n) := by
  refine into Tryz.f185 _ Tryz.func185 (hS.own _ (by decide)) rfl rfl (by kernel_rfl) (by kernel_rfl) ?_
  simp +contextual (disch := first | (simp only [facts, clsL, clsS, clsC, isPtrD]; done) | omega | (simp only [push_nx, put_nx, del_nx]; omega) | (refine Nat.le_antisymm ?_ ?_ <;> simp only [push_nx, put_nx, del_nx] <;> omega) | fail) only [wpy, facts, wpb, cst, wpk, wpl, forall_const, implies_true, false_implies, Int.reduceLE, Int.reduceLT, Nat.reduceLeDiff, UInt8.reduceToNat, ↓reduceIte, Nat.reduceEqDiff, Nat.reduceAdd, reduceCtorEq, Int.reduceToNat, clsL, clsS, clsC, Tryz.f185]
  refine callF_pure (afixG_spec hS a hl x n hn hx) ?_
  rintro _ h1 hx1 ⟨lv, rfl, hlv⟩
  simp +contextual (disch := first | (simp only [facts, clsL, clsS, clsC, isPtrD]; done) | omega | (simp only [push_nx, put_nx, del_nx]; omega) | (refine Nat.le_antisymm ?_ ?_ <;> simp only [push_nx, put_nx, del_nx] <;> omega) | fail) only [wpy, facts, wpb, cst, wpk, wpl, forall_const, implies_true, false_implies, Int.reduceLE, Int.reduceLT, Nat.reduceLeDiff, UInt8.reduceToNat, ↓reduceIte, Nat.reduceEqDiff, Nat.reduceAdd, reduceCtorEq, Int.reduceToNat, clsL, clsS, clsC, Tryz.f185]
  exact ⟨hx1, hlv⟩
theorem rafix_spec {v : V} {l : List Nat} {h : H} (a : BS 5 h v l) (hl : l.length < 2 ^ 27) (x : Int) (n : Nat) (hn : 1 ≤ n ∧ n ≤ 4) (hx : 0 ≤ x ∧ x < 256 ^ n) : Pure S.cfg 296 [v, .int .u64 x, .int .i64 n] h fun w h' => ∃ lv, w = .tuple [lv, .int .i64 0] ∧ LB h.nx h' lv (l ++ leB x n) := by
  refine into Tryz.f296 _ Tryz.func296 (hS.own _ (by decide)) rfl rfl (by kernel_rfl) (by kernel_rfl) ?_
  have n1 : ¬ n < 1 := by omega
  have n2 : ¬ 8 < n := by omega
  have n3 : n < 8 := by omega
  have s0 : IntKind.u64.wrap (n : Int) = n := u64_in _ (by omega)
  have s2 : IntKind.u64.wrap (8 * (n : Int)) = 8 * (n : Int) := u64_in _ (by omega)
  have s3 : ¬ (8 * (n : Int) < 0) := by omega
  have s1 : iShr .u64 x (8 * (n : Int)) = 0 := by
    rw [iShr_pow (by omega)]
    exact Int.ediv_eq_zero_of_lt hx.1 hx.2
  simp +contextual (disch := first | (simp only [facts, clsL, clsS, clsC, isPtrD]; done) | omega | (simp only [push_nx, put_nx, del_nx]; omega) | (refine Nat.le_antisymm ?_ ?_ <;> simp only [push_nx, put_nx, del_nx] <;> omega) | fail) only [wpy, facts, wpb, cst, wpk, wpl, forall_const, implies_true, false_implies, Int.reduceLE, Int.reduceLT, Nat.reduceLeDiff, UInt8.reduceToNat, ↓reduceIte, Nat.reduceEqDiff, Nat.reduceAdd, reduceCtorEq, Int.reduceToNat, clsL, clsS, clsC, Tryz.f296, n1, n2, n3, s0, s2, s3, s1]
  generalize hhA : H.push h _ = hA
  have hxA : Ext h hA := by rw [← hhA]; exact (Ext.refl h).push _
  have gA : hA.get h.nx = some (.cells [] 5 false) := by rw [← hhA]; exact push_eq rfl
  have nA : hA.nx = h.nx + 1 := by rw [← hhA]; rfl
  clear hhA
  refine append_lst (n0 := h.nx) (sv := .slice h.nx 0 0 0) (xv := v) (cells := []) (new := bytesV l) (by simp +contextual (disch := first | (simp only [facts, clsL, clsS, clsC, isPtrD]; done) | omega | (simp only [push_nx, put_nx, del_nx]; omega) | (refine Nat.le_antisymm ?_ ?_ <;> simp only [push_nx, put_nx, del_nx] <;> omega) | fail) only [wpy, facts, wpb, cst, wpk, wpl, forall_const, implies_true, false_implies, Int.reduceLE, Int.reduceLT, Nat.reduceLeDiff, UInt8.reduceToNat, ↓reduceIte, Nat.reduceEqDiff, Nat.reduceAdd, reduceCtorEq, Int.reduceToNat, clsL, clsS, clsC]) (by simp +contextual (disch := first | (simp only [facts, clsL, clsS, clsC, isPtrD]; done) | omega | (simp only [push_nx, put_nx, del_nx]; omega) | (refine Nat.le_antisymm ?_ ?_ <;> simp only [push_nx, put_nx, del_nx] <;> omega) | fail) only [wpy, facts, wpb, cst, wpk, wpl, forall_const, implies_true, false_implies, Int.reduceLE, Int.reduceLT, Nat.reduceLeDiff, UInt8.reduceToNat, ↓reduceIte, Nat.reduceEqDiff, Nat.reduceAdd, reduceCtorEq, Int.reduceToNat, clsL, clsS, clsC]) ap27 tx27 (.inr ⟨rfl, h.nx, Nat.le_refl _, by omega, rfl, gA⟩) (a.ext hxA).src (bytesV_all _) ?_ (by decide) (fun k hk => by rw [fresh_def]; exact .inl hk) (by omega) ?_
  · rw [bytesV_length]; simp only [List.length_nil]; omega
  intro w1 h1 L1 hl1 hk1 hkk1 hf1 hL1
  rw [List.nil_append] at hl1
  have hx1 : Ext h h1 := ⟨by omega, fun k hk => by rw [hf1 k hk, hxA.2 k hk]⟩
  simp +contextual (disch := first | (simp only [facts, clsL, clsS, clsC, isPtrD]; done) | omega | (simp only [push_nx, put_nx, del_nx]; omega) | (refine Nat.le_antisymm ?_ ?_ <;> simp only [push_nx, put_nx, del_nx] <;> omega) | fail) only [wpy, facts, wpb, cst, wpk, wpl, forall_const, implies_true, false_implies, Int.reduceLE, Int.reduceLT, Nat.reduceLeDiff, UInt8.reduceToNat, ↓reduceIte, Nat.reduceEqDiff, Nat.reduceAdd, reduceCtorEq, Int.reduceToNat, clsL, clsS, clsC, Tryz.f296]
  refine run_loop (fun k env h' => ∃ i : Nat, k = n - i ∧ i ≤ n ∧ env 1 = .int .u64 x ∧ env 2 = .int .i64 n ∧ env 9 = .int .i64 i ∧ Ext h h' ∧ ∃ lv, env 8 = lv ∧ LB h.nx h' lv (l ++ (leB x n).take i)) n ⟨0, ?_⟩ ?_
  · simp +contextual (disch := first | (simp only [facts, clsL, clsS, clsC, isPtrD]; done) | omega | (simp only [push_nx, put_nx, del_nx]; omega) | (refine Nat.le_antisymm ?_ ?_ <;> simp only [push_nx, put_nx, del_nx] <;> omega) | fail) only [wpy, facts, wpb, cst, wpk, wpl, forall_const, implies_true, false_implies, Int.reduceLE, Int.reduceLT, Nat.reduceLeDiff, UInt8.reduceToNat, ↓reduceIte, Nat.reduceEqDiff, Nat.reduceAdd, reduceCtorEq, Int.reduceToNat, clsL, clsS, clsC]
    exact ⟨rfl, hx1, _, rfl, hl1⟩
  rintro k env h' ⟨i, rfl, hi, e1, e2, e9, hxx, lv, e8, hlv⟩
  have n2 := hxx.1
  by_cases hin : i < n
  · have w0 : IntKind.u64.wrap (i : Int) = i := u64_in _ (by omega)
    have w1 : IntKind.u64.wrap (8 * (i : Int)) = 8 * (i : Int) := u64_in _ (by omega)
    have w2 : ¬ (8 * (i : Int) < 0) := by omega
    have w3 := leB_at x n i (by omega) hin
    simp +contextual (disch := first | (simp only [facts, clsL, clsS, clsC, isPtrD]; done) | omega | (simp only [push_nx, put_nx, del_nx]; omega) | (refine Nat.le_antisymm ?_ ?_ <;> simp only [push_nx, put_nx, del_nx] <;> omega) | fail) only [wpy, facts, wpb, cst, wpk, wpl, forall_const, implies_true, false_implies, Int.reduceLE, Int.reduceLT, Nat.reduceLeDiff, UInt8.reduceToNat, ↓reduceIte, Nat.reduceEqDiff, Nat.reduceAdd, reduceCtorEq, Int.reduceToNat, clsL, clsS, clsC, Tryz.f296, e1, e2, e9, e8, hin, w0, w1, w2, w3]
    refine app_one (n0 := h.nx) ap27 tx27 (by simp +contextual (disch := first | (simp only [facts, clsL, clsS, clsC, isPtrD]; done) | omega | (simp only [push_nx, put_nx, del_nx]; omega) | (refine Nat.le_antisymm ?_ ?_ <;> simp only [push_nx, put_nx, del_nx] <;> omega) | fail) only [wpy, facts, wpb, cst, wpk, wpl, forall_const, implies_true, false_implies, Int.reduceLE, Int.reduceLT, Nat.reduceLeDiff, UInt8.reduceToNat, ↓reduceIte, Nat.reduceEqDiff, Nat.reduceAdd, reduceCtorEq, Int.reduceToNat, clsL, clsS, clsC, e8]) (by simp +contextual (disch := first | (simp only [facts, clsL, clsS, clsC, isPtrD]; done) | omega | (simp only [push_nx, put_nx, del_nx]; omega) | (refine Nat.le_antisymm ?_ ?_ <;> simp only [push_nx, put_nx, del_nx] <;> omega) | fail) only [wpy, facts, wpb, cst, wpk, wpl, forall_const, implies_true, false_implies, Int.reduceLE, Int.reduceLT, Nat.reduceLeDiff, UInt8.reduceToNat, ↓reduceIte, Nat.reduceEqDiff, Nat.reduceAdd, reduceCtorEq, Int.reduceToNat, clsL, clsS, clsC]) rfl hlv ?_ (fun k hk => by rw [fresh_def]; exact .inl hk) (by omega) ?_
    · rw [List.length_append, List.length_take]; omega
    intro v2 h2 L2 hl2 hn2 hk2 hL2
    simp +contextual (disch := first | (simp only [facts, clsL, clsS, clsC, isPtrD]; done) | omega | (simp only [push_nx, put_nx, del_nx]; omega) | (refine Nat.le_antisymm ?_ ?_ <;> simp only [push_nx, put_nx, del_nx] <;> omega) | fail) only [wpy, facts, wpb, cst, wpk, wpl, forall_const, implies_true, false_implies, Int.reduceLE, Int.reduceLT, Nat.reduceLeDiff, UInt8.reduceToNat, ↓reduceIte, Nat.reduceEqDiff, Nat.reduceAdd, reduceCtorEq, Int.reduceToNat, clsL, clsS, clsC, Tryz.f296, e1, e2, e9]
    refine ⟨n - (i + 1), by omega, i + 1, rfl, by omega, rfl, ⟨by omega, fun k hk => by rw [hk2 k hk, hxx.2 k hk]⟩, ?_⟩
    rw [List.take_succ_eq_append_getElem (by rw [leB_len]; exact hin), ← List.append_assoc]
    exact ⟨_, rfl, hl2⟩
  · obtain rfl : i = n := by omega
    rw [List.take_of_length_le (by rw [leB_len]; exact Nat.le_refl _)] at hlv
    simp +contextual (disch := first | (simp only [facts, clsL, clsS, clsC, isPtrD]; done) | omega | (simp only [push_nx, put_nx, del_nx]; omega) | (refine Nat.le_antisymm ?_ ?_ <;> simp only [push_nx, put_nx, del_nx] <;> omega) | fail) only [wpy, facts, wpb, cst, wpk, wpl, forall_const, implies_true, false_implies, Int.reduceLE, Int.reduceLT, Nat.reduceLeDiff, UInt8.reduceToNat, ↓reduceIte, Nat.reduceEqDiff, Nat.reduceAdd, reduceCtorEq, Int.reduceToNat, clsL, clsS, clsC, Tryz.f296, e1, e2, e9, e8, hin]
    exact ⟨hxx, _, rfl, hlv⟩
theorem rfixed_spec {v : V} {l : List Nat} {h : H} (a : BS 5 h v l) (hl : l.length < 2 ^ 27) (x : Int) (n : Nat) (hn : 1 ≤ n ∧ n ≤ 4) (hx : 0 ≤ x ∧ x < 256 ^ n) : Pure S.cfg 198 [v, .int .u64 x, .int .i64 n] h fun w h' => LB h.nx h' w (l ++ leB x n) := by
  refine into Tryz.f198 _ Tryz.func198 (hS.own _ (by decide)) rfl rfl (by kernel_rfl) (by kernel_rfl) ?_
  simp +contextual (disch := first | (simp only [facts, clsL, clsS, clsC, isPtrD]; done) | omega | (simp only [push_nx, put_nx, del_nx]; omega) | (refine Nat.le_antisymm ?_ ?_ <;> simp only [push_nx, put_nx, del_nx] <;> omega) | fail) only [wpy, facts, wpb, cst, wpk, wpl, forall_const, implies_true, false_implies, Int.reduceLE, Int.reduceLT, Nat.reduceLeDiff, UInt8.reduceToNat, ↓reduceIte, Nat.reduceEqDiff, Nat.reduceAdd, reduceCtorEq, Int.reduceToNat, clsL, clsS, clsC, Tryz.f198]
  refine callF_pure (rafix_spec hS a hl x n hn hx) ?_
  rintro _ h1 hx1 ⟨lv, rfl, hlv⟩
  simp +contextual (disch := first | (simp only [facts, clsL, clsS, clsC, isPtrD]; done) | omega | (simp only [push_nx, put_nx, del_nx]; omega) | (refine Nat.le_antisymm ?_ ?_ <;> simp only [push_nx, put_nx, del_nx] <;> omega) | fail) only [wpy, facts, wpb, cst, wpk, wpl, forall_const, implies_true, false_implies, Int.reduceLE, Int.reduceLT, Nat.reduceLeDiff, UInt8.reduceToNat, ↓reduceIte, Nat.reduceEqDiff, Nat.reduceAdd, reduceCtorEq, Int.reduceToNat, clsL, clsS, clsC, Tryz.f198]
  exact ⟨hx1, hlv⟩
theorem fine_spec {ver : List Nat} {nv : V} {nl : List Nat} {c : Int} {h : H} (a : BS 5 h nv nl) (hn : NonceOk nl) (hc : CapsOk c) : Pure S.cfg 182 [.agg (greetC ver nv c)] h fun v _ => v = bo (0 ∉ ver) := by
  refine into Tryz.f182 _ Tryz.func182 (hS.own _ (by decide)) rfl rfl (by kernel_rfl) (by kernel_rfl) ?_
  obtain ⟨x1, x2⟩ := a.cell
  unfold greetC
  simp +contextual (disch := first | (simp only [facts, clsL, clsS, clsC, isPtrD]; done) | omega | (simp only [push_nx, put_nx, del_nx]; omega) | (refine Nat.le_antisymm ?_ ?_ <;> simp only [push_nx, put_nx, del_nx] <;> omega) | fail) only [wpy, facts, wpb, cst, wpk, wpl, forall_const, implies_true, false_implies, Int.reduceLE, Int.reduceLT, Nat.reduceLeDiff, UInt8.reduceToNat, ↓reduceIte, Nat.reduceEqDiff, Nat.reduceAdd, reduceCtorEq, Int.reduceToNat, clsL, clsS, clsC, Tryz.f182, x1, x2]
  generalize hhA : H.push h _ = hA
  have hxA : Ext h hA := by rw [← hhA]; exact (Ext.refl h).push _
  have gA : hA.get h.nx = some (.cells (greetC ver nv c) 141 false) := by rw [← hhA]; exact push_eq rfl
  have nA : hA.nx = h.nx + 1 := by rw [← hhA]; rfl
  clear hhA
  unfold greetC at gA
  have a1 := rw_built (h := hA) (cs := [.str ver, .str natT]) (ts := [ver, natT]) (n := 2) rfl rfl
  rw [nA] at a1
  generalize hhB : H.push hA _ = hB at *
  have hxB : Ext hA hB := by rw [← hhB]; exact (Ext.refl hA).push _
  have gB := (hxB.2 h.nx (by omega)).trans gA
  clear hhB
  have hx := hxA.trans hxB
  refine callF_exact (gplain_spec hS a1 (show (2 : Nat) < 2 ^ 30 by decide)) ?_
  have hp : (∀ t ∈ [ver, natT], 0 ∉ t) = (0 ∉ ver) := by
    have : 0 ∉ natT := by decide
    simp [this]
  rw [hp]
  by_cases hz : 0 ∈ ver
  · rw [eq_false fun q : 0 ∉ ver => q hz]
    simp +contextual (disch := first | (simp only [facts, clsL, clsS, clsC, isPtrD]; done) | omega | (simp only [push_nx, put_nx, del_nx]; omega) | (refine Nat.le_antisymm ?_ ?_ <;> simp only [push_nx, put_nx, del_nx] <;> omega) | fail) only [wpy, facts, wpb, cst, wpk, wpl, forall_const, implies_true, false_implies, Int.reduceLE, Int.reduceLT, Nat.reduceLeDiff, UInt8.reduceToNat, ↓reduceIte, Nat.reduceEqDiff, Nat.reduceAdd, reduceCtorEq, Int.reduceToNat, clsL, clsS, clsC, Tryz.f182]
    exact hx
  rw [eq_true hz]
  simp +contextual (disch := first | (simp only [facts, clsL, clsS, clsC, isPtrD]; done) | omega | (simp only [push_nx, put_nx, del_nx]; omega) | (refine Nat.le_antisymm ?_ ?_ <;> simp only [push_nx, put_nx, del_nx] <;> omega) | fail) only [wpy, facts, wpb, cst, wpk, wpl, forall_const, implies_true, false_implies, Int.reduceLE, Int.reduceLT, Nat.reduceLeDiff, UInt8.reduceToNat, ↓reduceIte, Nat.reduceEqDiff, Nat.reduceAdd, reduceCtorEq, Int.reduceToNat, clsL, clsS, clsC, Tryz.f182, gB]
  refine callF_exact (scheck_spec hS (a.ext hx) hn) ?_
  simp +contextual (disch := first | (simp only [facts, clsL, clsS, clsC, isPtrD]; done) | omega | (simp only [push_nx, put_nx, del_nx]; omega) | (refine Nat.le_antisymm ?_ ?_ <;> simp only [push_nx, put_nx, del_nx] <;> omega) | fail) only [wpy, facts, wpb, cst, wpk, wpl, forall_const, implies_true, false_implies, Int.reduceLE, Int.reduceLT, Nat.reduceLeDiff, UInt8.reduceToNat, ↓reduceIte, Nat.reduceEqDiff, Nat.reduceAdd, reduceCtorEq, Int.reduceToNat, clsL, clsS, clsC, Tryz.f182, gB, Int.reduceEq]
  refine callF_exact (has_spec hS _ _ _) ?_
  have q1 := eq_true hc.b
  have q2 := eq_true hc.d
  have q3 : ¬ natT = [] := by decide
  simp +contextual (disch := first | (simp only [facts, clsL, clsS, clsC, isPtrD]; done) | omega | (simp only [push_nx, put_nx, del_nx]; omega) | (refine Nat.le_antisymm ?_ ?_ <;> simp only [push_nx, put_nx, del_nx] <;> omega) | fail) only [wpy, facts, wpb, cst, wpk, wpl, forall_const, implies_true, false_implies, Int.reduceLE, Int.reduceLT, Nat.reduceLeDiff, UInt8.reduceToNat, ↓reduceIte, Nat.reduceEqDiff, Nat.reduceAdd, reduceCtorEq, Int.reduceToNat, clsL, clsS, clsC, Tryz.f182, gB, q1, q3]
  refine callF_exact (has_spec hS _ _ _) ?_
  simp +contextual (disch := first | (simp only [facts, clsL, clsS, clsC, isPtrD]; done) | omega | (simp only [push_nx, put_nx, del_nx]; omega) | (refine Nat.le_antisymm ?_ ?_ <;> simp only [push_nx, put_nx, del_nx] <;> omega) | fail) only [wpy, facts, wpb, cst, wpk, wpl, forall_const, implies_true, false_implies, Int.reduceLE, Int.reduceLT, Nat.reduceLeDiff, UInt8.reduceToNat, ↓reduceIte, Nat.reduceEqDiff, Nat.reduceAdd, reduceCtorEq, Int.reduceToNat, clsL, clsS, clsC, Tryz.f182, gB, q1, q2, q3]
  exact hx
theorem rfine_spec {ver : List Nat} {nv : V} {nl : List Nat} {c : Int} {h : H} (a : BS 5 h nv nl) (hn : NonceOk nl) (hc : CapsOk c) (hv : ver.length < 2 ^ 62) : Pure S.cfg 196 [.agg (greetC ver nv c)] h fun v _ => v = bo (0 ∉ ver) := by
  refine into Tryz.f196 _ Tryz.func196 (hS.own _ (by decide)) rfl rfl (by kernel_rfl) (by kernel_rfl) ?_
  obtain ⟨x1, x2⟩ := a.cell
  unfold greetC
  simp +contextual (disch := first | (simp only [facts, clsL, clsS, clsC, isPtrD]; done) | omega | (simp only [push_nx, put_nx, del_nx]; omega) | (refine Nat.le_antisymm ?_ ?_ <;> simp only [push_nx, put_nx, del_nx] <;> omega) | fail) only [wpy, facts, wpb, cst, wpk, wpl, forall_const, implies_true, false_implies, Int.reduceLE, Int.reduceLT, Nat.reduceLeDiff, UInt8.reduceToNat, ↓reduceIte, Nat.reduceEqDiff, Nat.reduceAdd, reduceCtorEq, Int.reduceToNat, clsL, clsS, clsC, Tryz.f196, x1, x2]
  generalize hhA : H.push h _ = hA
  have hxA : Ext h hA := by rw [← hhA]; exact (Ext.refl h).push _
  have gA : hA.get h.nx = some (.cells (greetC ver nv c) 141 false) := by rw [← hhA]; exact push_eq rfl
  have nA : hA.nx = h.nx + 1 := by rw [← hhA]; rfl
  clear hhA
  unfold greetC at gA
  refine callF_exact (rplainT_spec hS ver hv _) ?_
  by_cases hz : 0 ∈ ver
  · rw [eq_false fun q : 0 ∉ ver => q hz]
    simp +contextual (disch := first | (simp only [facts, clsL, clsS, clsC, isPtrD]; done) | omega | (simp only [push_nx, put_nx, del_nx]; omega) | (refine Nat.le_antisymm ?_ ?_ <;> simp only [push_nx, put_nx, del_nx] <;> omega) | fail) only [wpy, facts, wpb, cst, wpk, wpl, forall_const, implies_true, false_implies, Int.reduceLE, Int.reduceLT, Nat.reduceLeDiff, UInt8.reduceToNat, ↓reduceIte, Nat.reduceEqDiff, Nat.reduceAdd, reduceCtorEq, Int.reduceToNat, clsL, clsS, clsC, Tryz.f196]
    exact hxA
  rw [eq_true hz]
  simp +contextual (disch := first | (simp only [facts, clsL, clsS, clsC, isPtrD]; done) | omega | (simp only [push_nx, put_nx, del_nx]; omega) | (refine Nat.le_antisymm ?_ ?_ <;> simp only [push_nx, put_nx, del_nx] <;> omega) | fail) only [wpy, facts, wpb, cst, wpk, wpl, forall_const, implies_true, false_implies, Int.reduceLE, Int.reduceLT, Nat.reduceLeDiff, UInt8.reduceToNat, ↓reduceIte, Nat.reduceEqDiff, Nat.reduceAdd, reduceCtorEq, Int.reduceToNat, clsL, clsS, clsC, Tryz.f196, gA]
  refine callF_exact (rscheck_spec hS (a.ext hxA) hn) ?_
  simp +contextual (disch := first | (simp only [facts, clsL, clsS, clsC, isPtrD]; done) | omega | (simp only [push_nx, put_nx, del_nx]; omega) | (refine Nat.le_antisymm ?_ ?_ <;> simp only [push_nx, put_nx, del_nx] <;> omega) | fail) only [wpy, facts, wpb, cst, wpk, wpl, forall_const, implies_true, false_implies, Int.reduceLE, Int.reduceLT, Nat.reduceLeDiff, UInt8.reduceToNat, ↓reduceIte, Nat.reduceEqDiff, Nat.reduceAdd, reduceCtorEq, Int.reduceToNat, clsL, clsS, clsC, Tryz.f196, gA, Int.reduceEq]
  refine callF_exact (rbase_spec hS hc _) ?_
  simp +contextual (disch := first | (simp only [facts, clsL, clsS, clsC, isPtrD]; done) | omega | (simp only [push_nx, put_nx, del_nx]; omega) | (refine Nat.le_antisymm ?_ ?_ <;> simp only [push_nx, put_nx, del_nx] <;> omega) | fail) only [wpy, facts, wpb, cst, wpk, wpl, forall_const, implies_true, false_implies, Int.reduceLE, Int.reduceLT, Nat.reduceLeDiff, UInt8.reduceToNat, ↓reduceIte, Nat.reduceEqDiff, Nat.reduceAdd, reduceCtorEq, Int.reduceToNat, clsL, clsS, clsC, Tryz.f196, gA]
  refine callF_exact (rplainT_spec hS natT (by decide) _) ?_
  have q0 : 0 ∉ natT := by decide
  have q3 : ¬ natT = [] := by decide
  rw [eq_true q0]
  simp +contextual (disch := first | (simp only [facts, clsL, clsS, clsC, isPtrD]; done) | omega | (simp only [push_nx, put_nx, del_nx]; omega) | (refine Nat.le_antisymm ?_ ?_ <;> simp only [push_nx, put_nx, del_nx] <;> omega) | fail) only [wpy, facts, wpb, cst, wpk, wpl, forall_const, implies_true, false_implies, Int.reduceLE, Int.reduceLT, Nat.reduceLeDiff, UInt8.reduceToNat, ↓reduceIte, Nat.reduceEqDiff, Nat.reduceAdd, reduceCtorEq, Int.reduceToNat, clsL, clsS, clsC, Tryz.f196, gA, q3]
  refine callF_exact (rhas_spec hS _ _ _) ?_
  have q2 : ¬ iAnd .u32 c 524288 = 0 := by rw [hc.d]; decide
  simp +contextual (disch := first | (simp only [facts, clsL, clsS, clsC, isPtrD]; done) | omega | (simp only [push_nx, put_nx, del_nx]; omega) | (refine Nat.le_antisymm ?_ ?_ <;> simp only [push_nx, put_nx, del_nx] <;> omega) | fail) only [wpy, facts, wpb, cst, wpk, wpl, forall_const, implies_true, false_implies, Int.reduceLE, Int.reduceLT, Nat.reduceLeDiff, UInt8.reduceToNat, ↓reduceIte, Nat.reduceEqDiff, Nat.reduceAdd, reduceCtorEq, Int.reduceToNat, clsL, clsS, clsC, Tryz.f196, gA, q2, q3]
  exact hxA
end
end Go.Proofs.YthhdkonpejmgcaaGreatDoor
