/-
  Several texts of one walk, joined.
-/
import Derived.Test.YtkibhdbmamfjcaaDoorProg
import Derived.Test.YtkibhdbmamfjcaaDoorWxZ
import Derived.Test.YtkibhdbmamfjcaaDoorScA
set_option linter.unusedSimpArgs false
set_option linter.unusedVariables false
set_option linter.defProp false
namespace Go.Proofs.YtkibhdbmamfjcaaDoor
open Go.Proofs Go.Lx Go.Wx
noncomputable section
namespace C2

theorem ze26 : zeroL Tryd.prog 26 = some [.int .i64 0, .int .i64 0] := by kernel_rfl
theorem sz26 : szT Tryd.prog 26 = some 2 := by kernel_rfl
theorem ty26 : tyR Tryd.prog 26 = some (2, true) := by kernel_rfl
theorem bu26 : buildV Tryd.prog 26 [] = some (.agg [.int .i64 0, .int .i64 0]) := by kernel_rfl
-- eq on type 26
theorem bs29_11 (v0_0 v1_0 v2_0 v3_0 v4_0 v5_0 v6_0 v7_0 v8_0 v9_0 v10_0 : V) : buildSliceL Tryd.prog 29 11 [(0, [v0_0]), (1, [v1_0]), (2, [v2_0]), (3, [v3_0]), (4, [v4_0]), (5, [v5_0]), (6, [v6_0]), (7, [v7_0]), (8, [v8_0]), (9, [v9_0]), (10, [v10_0])] = some ([v0_0, v1_0, v2_0, v3_0, v4_0, v5_0, v6_0, v7_0, v8_0, v9_0, v10_0], 9) := by kernel_rfl
theorem ia29 (k o n m : Nat) (kd : IntKind) (i : Int) : indexAddrV Tryd.prog 29 (.slice k o n m) (.int kd i) = if 0 ≤ i ∧ i < n then some (.ptr k (o + i.toNat * 1)) else none := indexAddr_slice (e := 9) (by kernel_rfl) (by kernel_rfl) k o n m kd i
theorem ty9 : tyR Tryd.prog 9 = some (1, false) := by kernel_rfl
theorem bu36_0_1 (v0_0 v1_0 : V) : buildV Tryd.prog 36 [(0, [v0_0]), (1, [v1_0])] = some (.agg [v0_0, v1_0, .int .i64 0]) := by kernel_rfl
theorem ze36 : zeroL Tryd.prog 36 = some [.int .i64 0, .str [], .int .i64 0] := by kernel_rfl
theorem sz36 : szT Tryd.prog 36 = some 3 := by kernel_rfl
theorem bs23_0 : buildSliceL Tryd.prog 23 0 [] = some ([], 36) := by kernel_rfl
theorem ap23 : apI Tryd.prog 23 = some (36, 3, 32) := by kernel_rfl
theorem ty36 : tyR Tryd.prog 36 = some (3, true) := by kernel_rfl
theorem bs23_1 (v0_0 v0_1 v0_2 : V) : buildSliceL Tryd.prog 23 1 [(0, [v0_0, v0_1, v0_2])] = some ([v0_0, v0_1, v0_2], 36) := by kernel_rfl
-- eq on type 45
theorem bs49_0 : buildSliceL Tryd.prog 49 0 [] = some ([], 45) := by kernel_rfl
theorem ap49 : apI Tryd.prog 49 = some (45, 3, 40) := by kernel_rfl
theorem ze45 : zeroL Tryd.prog 45 = some [.int .i64 0, .str [], .str []] := by kernel_rfl
theorem sz45 : szT Tryd.prog 45 = some 3 := by kernel_rfl
theorem bu45_0_1_2 (v0_0 v1_0 v2_0 : V) : buildV Tryd.prog 45 [(0, [v0_0]), (1, [v1_0]), (2, [v2_0])] = some (.agg [v0_0, v1_0, v2_0]) := by kernel_rfl
theorem ty45 : tyR Tryd.prog 45 = some (3, true) := by kernel_rfl
theorem bs49_3 (v0_0 v0_1 v0_2 v1_0 v1_1 v1_2 v2_0 v2_1 v2_2 : V) : buildSliceL Tryd.prog 49 3 [(0, [v0_0, v0_1, v0_2]), (1, [v1_0, v1_1, v1_2]), (2, [v2_0, v2_1, v2_2])] = some ([v0_0, v0_1, v0_2, v1_0, v1_1, v1_2, v2_0, v2_1, v2_2], 45) := by kernel_rfl
theorem bu45_0_1 (v0_0 v1_0 : V) : buildV Tryd.prog 45 [(0, [v0_0]), (1, [v1_0])] = some (.agg [v0_0, v1_0, .str []]) := by kernel_rfl
theorem bs49_2 (v0_0 v0_1 v0_2 v1_0 v1_1 v1_2 : V) : buildSliceL Tryd.prog 49 2 [(0, [v0_0, v0_1, v0_2]), (1, [v1_0, v1_1, v1_2])] = some ([v0_0, v0_1, v0_2, v1_0, v1_1, v1_2], 45) := by kernel_rfl
theorem bs49_4 (v0_0 v0_1 v0_2 v1_0 v1_1 v1_2 v2_0 v2_1 v2_2 v3_0 v3_1 v3_2 : V) : buildSliceL Tryd.prog 49 4 [(0, [v0_0, v0_1, v0_2]), (1, [v1_0, v1_1, v1_2]), (2, [v2_0, v2_1, v2_2]), (3, [v3_0, v3_1, v3_2])] = some ([v0_0, v0_1, v0_2, v1_0, v1_1, v1_2, v2_0, v2_1, v2_2, v3_0, v3_1, v3_2], 45) := by kernel_rfl
theorem ia49 (k o n m : Nat) (kd : IntKind) (i : Int) : indexAddrV Tryd.prog 49 (.slice k o n m) (.int kd i) = if 0 ≤ i ∧ i < n then some (.ptr k (o + i.toNat * 3)) else none := indexAddr_slice (e := 45) (by kernel_rfl) (by kernel_rfl) k o n m kd i
theorem fa45_0 (k o : Nat) : fieldAddrV Tryd.prog 45 (.ptr k o) 0 = some (.ptr k (o + 0)) := by kernel_rfl
theorem ty3 : tyR Tryd.prog 3 = some (1, false) := by kernel_rfl
-- eq on type 4
theorem bs49_1 (v0_0 v0_1 v0_2 : V) : buildSliceL Tryd.prog 49 1 [(0, [v0_0, v0_1, v0_2])] = some ([v0_0, v0_1, v0_2], 45) := by kernel_rfl
theorem by41 : byteS Tryd.prog 41 = true := by kernel_rfl
theorem el41 : elemS Tryd.prog 41 = 5 := by kernel_rfl
theorem ia23 (k o n m : Nat) (kd : IntKind) (i : Int) : indexAddrV Tryd.prog 23 (.slice k o n m) (.int kd i) = if 0 ≤ i ∧ i < n then some (.ptr k (o + i.toNat * 3)) else none := indexAddr_slice (e := 36) (by kernel_rfl) (by kernel_rfl) k o n m kd i
theorem fa36_0 (k o : Nat) : fieldAddrV Tryd.prog 36 (.ptr k o) 0 = some (.ptr k (o + 0)) := by kernel_rfl
theorem ia41 (k o n m : Nat) (kd : IntKind) (i : Int) : indexAddrV Tryd.prog 41 (.slice k o n m) (.int kd i) = if 0 ≤ i ∧ i < n then some (.ptr k (o + i.toNat * 1)) else none := indexAddr_slice (e := 5) (by kernel_rfl) (by kernel_rfl) k o n m kd i
theorem ty5 : tyR Tryd.prog 5 = some (1, false) := by kernel_rfl
theorem sz5 : szT Tryd.prog 5 = some 1 := by kernel_rfl
theorem ap41 : apI Tryd.prog 41 = some (5, 1, 1) := by kernel_rfl
theorem fa36_1 (k o : Nat) : fieldAddrV Tryd.prog 36 (.ptr k o) 1 = some (.ptr k (o + 1)) := by kernel_rfl
theorem fa36_2 (k o : Nat) : fieldAddrV Tryd.prog 36 (.ptr k o) 2 = some (.ptr k (o + 2)) := by kernel_rfl
theorem bu45_0 (v0_0 : V) : buildV Tryd.prog 45 [(0, [v0_0])] = some (.agg [v0_0, .str [], .str []]) := by kernel_rfl
theorem bs76_3 (v0_0 v1_0 v2_0 : V) : buildSliceL Tryd.prog 76 3 [(0, [v0_0]), (1, [v1_0]), (2, [v2_0])] = some ([v0_0, v1_0, v2_0], 75) := by kernel_rfl
theorem ia76 (k o n m : Nat) (kd : IntKind) (i : Int) : indexAddrV Tryd.prog 76 (.slice k o n m) (.int kd i) = if 0 ≤ i ∧ i < n then some (.ptr k (o + i.toNat * 1)) else none := indexAddr_slice (e := 75) (by kernel_rfl) (by kernel_rfl) k o n m kd i
theorem ty75 : tyR Tryd.prog 75 = some (1, false) := by kernel_rfl
theorem fa45_1 (k o : Nat) : fieldAddrV Tryd.prog 45 (.ptr k o) 1 = some (.ptr k (o + 1)) := by kernel_rfl
theorem fa45_2 (k o : Nat) : fieldAddrV Tryd.prog 45 (.ptr k o) 2 = some (.ptr k (o + 2)) := by kernel_rfl
theorem bs29_2 (v0_0 v1_0 : V) : buildSliceL Tryd.prog 29 2 [(0, [v0_0]), (1, [v1_0])] = some ([v0_0, v1_0], 9) := by kernel_rfl
theorem bs29_3 (v0_0 v1_0 v2_0 : V) : buildSliceL Tryd.prog 29 3 [(0, [v0_0]), (1, [v1_0]), (2, [v2_0])] = some ([v0_0, v1_0, v2_0], 9) := by kernel_rfl
theorem bs29_4 (v0_0 v1_0 v2_0 v3_0 : V) : buildSliceL Tryd.prog 29 4 [(0, [v0_0]), (1, [v1_0]), (2, [v2_0]), (3, [v3_0])] = some ([v0_0, v1_0, v2_0, v3_0], 9) := by kernel_rfl
theorem bu45 : buildV Tryd.prog 45 [] = some (.agg [.int .i64 0, .str [], .str []]) := by kernel_rfl
theorem fa115_1 (k o : Nat) : fieldAddrV Tryd.prog 115 (.ptr k o) 1 = some (.ptr k (o + 1)) := by kernel_rfl
theorem fa115_0 (k o : Nat) : fieldAddrV Tryd.prog 115 (.ptr k o) 0 = some (.ptr k (o + 0)) := by kernel_rfl
theorem ty23 : tyR Tryd.prog 23 = some (1, false) := by kernel_rfl
theorem sz3 : szT Tryd.prog 3 = some 1 := by kernel_rfl
theorem bu115_0 (v0_0 : V) : buildV Tryd.prog 115 [(0, [v0_0])] = some (.agg [v0_0, .int .i64 0]) := by kernel_rfl
theorem bs29_13 (v0_0 v1_0 v2_0 v3_0 v4_0 v5_0 v6_0 v7_0 v8_0 v9_0 v10_0 v11_0 v12_0 : V) : buildSliceL Tryd.prog 29 13 [(0, [v0_0]), (1, [v1_0]), (2, [v2_0]), (3, [v3_0]), (4, [v4_0]), (5, [v5_0]), (6, [v6_0]), (7, [v7_0]), (8, [v8_0]), (9, [v9_0]), (10, [v10_0]), (11, [v11_0]), (12, [v12_0])] = some ([v0_0, v1_0, v2_0, v3_0, v4_0, v5_0, v6_0, v7_0, v8_0, v9_0, v10_0, v11_0, v12_0], 9) := by kernel_rfl
theorem bs29_9 (v0_0 v1_0 v2_0 v3_0 v4_0 v5_0 v6_0 v7_0 v8_0 : V) : buildSliceL Tryd.prog 29 9 [(0, [v0_0]), (1, [v1_0]), (2, [v2_0]), (3, [v3_0]), (4, [v4_0]), (5, [v5_0]), (6, [v6_0]), (7, [v7_0]), (8, [v8_0])] = some ([v0_0, v1_0, v2_0, v3_0, v4_0, v5_0, v6_0, v7_0, v8_0], 9) := by kernel_rfl
theorem bs120_4 (v0_0 v1_0 v2_0 v3_0 : V) : buildSliceL Tryd.prog 120 4 [(0, [v0_0]), (1, [v1_0]), (2, [v2_0]), (3, [v3_0])] = some ([v0_0, v1_0, v2_0, v3_0], 29) := by kernel_rfl
theorem ia120 (k o n m : Nat) (kd : IntKind) (i : Int) : indexAddrV Tryd.prog 120 (.slice k o n m) (.int kd i) = if 0 ≤ i ∧ i < n then some (.ptr k (o + i.toNat * 1)) else none := indexAddr_slice (e := 29) (by kernel_rfl) (by kernel_rfl) k o n m kd i
theorem ty29 : tyR Tryd.prog 29 = some (1, false) := by kernel_rfl
theorem bu144 : buildV Tryd.prog 144 [] = some (.agg []) := by kernel_rfl
theorem ze144 : zeroL Tryd.prog 144 = some [] := by kernel_rfl
theorem sz144 : szT Tryd.prog 144 = some 0 := by kernel_rfl
theorem bu36 : buildV Tryd.prog 36 [] = some (.agg [.int .i64 0, .str [], .int .i64 0]) := by kernel_rfl
noncomputable def factsT := And.intro @Tryd.underlying3 <| And.intro @Tryd.underlying4 <| And.intro @Tryd.underlying9 <| And.intro @Tryd.underlying23 <| And.intro @Tryd.underlying26 <| And.intro @Tryd.underlying29 <| And.intro @Tryd.underlying36 <| And.intro @Tryd.underlying41 <| And.intro @Tryd.underlying45 <| And.intro @Tryd.underlying49 <| And.intro @Tryd.underlying76 <| And.intro @Tryd.underlying78 <| And.intro @Tryd.underlying109 <| And.intro @Tryd.underlying120 <| And.intro @ze26 <| And.intro @sz26 <| And.intro @ty26 <| And.intro @bu26 <| And.intro @bs29_11 <| And.intro @ia29 <| And.intro @ty9 <| And.intro @bu36_0_1 <| And.intro @ze36 <| And.intro @sz36 <| And.intro @bs23_0 <| And.intro @ap23 <| And.intro @ty36 <| And.intro @bs23_1 <| And.intro @bs49_0 <| And.intro @ap49 <| And.intro @ze45 <| And.intro @sz45 <| And.intro @bu45_0_1_2 <| And.intro @ty45 <| And.intro @bs49_3 <| And.intro @bu45_0_1 <| And.intro @bs49_2 <| And.intro @bs49_4 <| And.intro @ia49 <| And.intro @fa45_0 <| And.intro @ty3 <| And.intro @bs49_1 <| And.intro @by41 <| And.intro @el41 <| And.intro @ia23 <| And.intro @fa36_0 <| And.intro @ia41 <| And.intro @ty5 <| And.intro @sz5 <| And.intro @ap41 <| And.intro @fa36_1 <| And.intro @fa36_2 <| And.intro @bu45_0 <| And.intro @bs76_3 <| And.intro @ia76 <| And.intro @ty75 <| And.intro @fa45_1 <| And.intro @fa45_2 <| And.intro @bs29_2 <| And.intro @bs29_3 <| And.intro @bs29_4 <| And.intro @bu45 <| And.intro @fa115_1 <| And.intro @fa115_0 <| And.intro @ty23 <| And.intro @sz3 <| And.intro @bu115_0 <| And.intro @bs29_13 <| And.intro @bs29_9 <| And.intro @bs120_4 <| And.intro @ia120 <| And.intro @ty29 <| And.intro @bu144 <| And.intro @ze144 <| And.intro @sz144 <| @bu36

end C2
end
end Go.Proofs.YtkibhdbmamfjcaaDoor
set_option linter.unusedSimpArgs false
set_option linter.unusedVariables false
set_option linter.defProp false
set_option maxRecDepth 10000
namespace Go.Proofs.YtkibhdbmamfjcaaDoor
open Int (reduceLE reduceLT reduceToNat)
open Nat (reduceLeDiff reduceEqDiff reduceAdd)
open Go.Proofs Go.Lx Go.Wx Go.IntWalk
noncomputable section

theorem gOp_no {c : Cfg} {Ok : Nat → Prop} {op : Op} {env : Env} {h : H} {K : V → H → Fp → Prop} : gOp c Ok False op env h K = K undefV h (.lg []) := by unfold gOp; simp
theorem gOp_yes {c : Cfg} {Ok : Nat → Prop} {op : Op} {env : Env} {h : H} {K : V → H → Fp → Prop} : gOp c Ok True op env h K = opW c Ok op env h K := by unfold gOp; simp
noncomputable def factsC := And.intro @facts <| And.intro @C2.factsT <| And.intro @gOp_no @gOp_yes
noncomputable def fr := And.intro @factsC <| And.intro @K3 <| And.intro @isPtrD.eq_1 @isPtrD.eq_2
noncomputable def fD := And.intro @factsC <| And.intro @wpb <| And.intro @cst <| And.intro @wpk <| And.intro @wpl <| And.intro @forall_const.{0} <| And.intro @forall_const.{1} <| And.intro @implies_true.{0} <| And.intro @implies_true.{1} <| And.intro @false_implies @K3
def But (r : Nat) (h h' : H) : Prop := h.nx ≤ h'.nx ∧ ∀ k, k < h.nx → k ≠ r → h'.get k = h.get k
theorem But.refl (r : Nat) (h : H) : But r h h := ⟨Nat.le_refl _, fun _ _ _ => rfl⟩
theorem But.trans {r : Nat} {a b c : H} (x : But r a b) (y : But r b c) : But r a c := ⟨Nat.le_trans x.1 y.1, fun k hk hr => by rw [y.2 k (Nat.lt_of_lt_of_le hk x.1) hr, x.2 k hk hr]⟩
theorem But.of_ext {r : Nat} {a b : H} (x : Ext a b) : But r a b := ⟨x.1, fun k hk _ => x.2 k hk⟩
theorem But.put {r : Nat} {a b : H} (x : But r a b) (o : Ob) : But r a (b.put r o) := ⟨x.1, fun k hk hr => by rw [put_get, if_neg hr, x.2 k hk hr]⟩
theorem Ext.but {r : Nat} {a b c : H} (x : Ext a b) (y : But r b c) (hr : a.nx ≤ r) : Ext a c := ⟨Nat.le_trans x.1 y.1, fun k hk => by rw [y.2 k (Nat.lt_of_lt_of_le hk x.1) (by omega), x.2 k hk]⟩
theorem goodTs {l : List (List Nat)} (h : (l.all fun s => !s.isEmpty && s.all fun b => Nat.blt b 256) = true) : ∀ s ∈ l, 0 < s.length ∧ Bytes s := by
  intro s hs
  have h1 := List.all_eq_true.1 h s hs
  rw [Bool.and_eq_true] at h1
  refine ⟨?_, fun b hb => ?_⟩
  · cases s with
    | nil => exact absurd h1.1 (by decide)
    | cons _ _ => exact Nat.succ_pos _
  · exact blt_iff.1 (List.all_eq_true.1 h1.2 b hb)

theorem wcells_drop : ∀ (ws : List WD) (i : Nat), (wcells ws).drop (i * 3) = wcells (ws.drop i)
  | ws, 0 => by simp
  | [], i + 1 => by simp [wcells]
  | w :: l, i + 1 => by
    have ih := wcells_drop l i
    rw [show (i + 1) * 3 = 3 + i * 3 by omega, List.drop_succ_cons, ← ih, show wcells (w :: l) = w.cells ++ wcells l from rfl, ← List.drop_drop]
    rfl
def Wds (h : H) (v : V) (ws : List WD) : Prop := (v = .nilslice ∧ ws = []) ∨ ∃ b o m c e fl, v = .slice b o ws.length m ∧ b < h.nx ∧ h.get b = some (.cells c e fl) ∧ (∀ i (hi : i < ws.length), o + i * 3 + 3 ≤ c.length ∧ (c.drop (o + i * 3)).take 3 = ws[i].cells) ∧ e = 36 ∧ ws.length ≤ m
theorem Wds.but {h h' : H} {v : V} {ws : List WD} {r : Nat} (hw : Wds h v ws) (hx : But r h h') (hr : ∀ o n m, v ≠ .slice r o n m) : Wds h' v ws := by
  rcases hw with h1 | ⟨b, o, m, c, e, fl, rfl, hb, hg, hc⟩
  · exact .inl h1
  · exact .inr ⟨b, o, m, c, e, fl, rfl, Nat.lt_of_lt_of_le hb hx.1, by rw [hx.2 b hb fun e => hr o ws.length m (by rw [e])]; exact hg, hc⟩
theorem Wds.ext {h h' : H} {v : V} {ws : List WD} (hw : Wds h v ws) (hx : Ext h h') : Wds h' v ws := by
  rcases hw with h1 | ⟨b, o, m, c, e, fl, rfl, hb, hg, hc⟩
  · exact .inl h1
  · exact .inr ⟨b, o, m, c, e, fl, rfl, Nat.lt_of_lt_of_le hb hx.1, by rw [hx.2 b hb]; exact hg, hc⟩
theorem Wds.cell {h : H} {v : V} {ws : List WD} (hw : Wds h v ws) : v.isCell = true ∧ v.cells = [v] := by
  rcases hw with ⟨rfl, _⟩ | ⟨b, o, m, c, e, fl, rfl, _⟩ <;> exact ⟨rfl, rfl⟩
theorem Wds.len {h : H} {v : V} {ws : List WD} (hw : Wds h v ws) : lenO (some (.slice 36)) v = some (.int .i64 ws.length) := by
  rcases hw with ⟨rfl, rfl⟩ | ⟨b, o, m, c, e, fl, rfl, _⟩ <;> rfl
theorem Wds.get {h : H} {v : V} {ws : List WD} (hw : Wds h v ws) {i : Nat} (hi : i < ws.length) : ∃ b o m c e fl, v = .slice b o ws.length m ∧ b < h.nx ∧ h.get b = some (.cells c e fl) ∧ o + i * 3 + 3 ≤ c.length ∧ (c.drop (o + i * 3)).take 3 = ws[i].cells := by
  rcases hw with ⟨rfl, rfl⟩ | ⟨b, o, m, c, e, fl, rfl, hb, hg, hc⟩
  · simp at hi
  · exact ⟨b, o, m, c, e, fl, rfl, hb, hg, (hc.1 i hi).1, (hc.1 i hi).2⟩
theorem Wds.of_acc {n0 : Nat} {h : H} {v : V} {ws : List WD} (ha : Wx.Acc n0 h v (wcells ws) 36 3) : Wds h v ws := by
  rcases ha with ⟨rfl, hw⟩ | ⟨b, k, _, hb2, rfl, _, hg, hk⟩
  · refine .inl ⟨rfl, ?_⟩
    have := wcells_len ws
    rw [hw] at this
    exact List.eq_nil_of_length_eq_zero (by simp at this; omega)
  · have hl := wcells_len ws
    obtain rfl : k = ws.length := by omega
    refine .inr ⟨b, 0, ws.length, wcells ws, 36, true, rfl, hb2, hg, fun i hi => ?_, rfl, Nat.le_refl _⟩
    refine ⟨by omega, ?_⟩
    rw [Nat.zero_add, wcells_drop, List.drop_eq_getElem_cons hi]
    rfl

theorem Wds.opened {h : H} {v : V} {ws : List WD} (hw : Wds h v ws) (h0 : 0 < ws.length) : ∃ b o m c fl, v = .slice b o ws.length m ∧ ws.length ≤ m ∧ b < h.nx ∧ h.get b = some (.cells c 36 fl) := by
  rcases hw with ⟨rfl, rfl⟩ | ⟨b, o, m, c, e, fl, rfl, hb, hg, hc, rfl, hm⟩
  · cases h0
  · exact ⟨b, o, m, c, fl, rfl, hm, hb, hg⟩
theorem Wds.part {h : H} {b o n m : Nat} {ws : List WD} (hw : Wds h (.slice b o n m) ws) (l k : Nat) (hlk : l + k ≤ ws.length) : Wds h (.slice b (o + l * 3) k (m - l)) ((ws.drop l).take k) := by
  rcases hw with ⟨q, _⟩ | ⟨b, o, m, c, e, fl, q, hb, hg, hc, rfl, hm⟩
  · cases q
  · cases q
    have hlen : ((ws.drop l).take k).length = k := by rw [List.length_take, List.length_drop]; omega
    refine .inr ⟨b, o + l * 3, m - l, c, 36, fl, by rw [hlen], hb, hg, fun i hi => ?_, rfl, by omega⟩
    rw [hlen] at hi
    have h1 := hc (l + i) (by omega)
    have e1 : o + l * 3 + i * 3 = o + (l + i) * 3 := by omega
    rw [e1]
    refine ⟨h1.1, h1.2.trans ?_⟩
    rw [List.getElem_take, List.getElem_drop]
def wordAt (ws : List WD) (a : Nat) : WD := ws[a]?.getD ⟨0, [], 0⟩
theorem wordAt_lt {ws : List WD} {a : Nat} (h : a < ws.length) : wordAt ws a = ws[a] := by simp [wordAt, List.getElem?_eq_getElem h]
theorem wordAt_ge {ws : List WD} {a : Nat} (h : ¬ a < ws.length) : wordAt ws a = ⟨0, [], 0⟩ := by simp [wordAt, List.getElem?_eq_none (by omega : ws.length ≤ a)]
def kindOf (s : List Nat) : Nat := if 97 ≤ s.getD 0 0 ∧ s.getD 0 0 ≤ 122 then 1 else 5
def isC (ws : List WD) (a : Nat) (s : List Nat) : Prop := (wordAt ws a).kind = kindOf s ∧ (wordAt ws a).text = s
noncomputable instance (ws : List WD) (a : Nat) (s : List Nat) : Decidable (isC ws a s) := Classical.propDecidable _
theorem isC_lt {ws : List WD} {a : Nat} {s : List Nat} (h : isC ws a s) : a < ws.length := by
  apply Decidable.byContradiction
  intro hn
  have h1 := h.1
  rw [wordAt_ge hn] at h1
  unfold kindOf at h1
  split at h1 <;> cases h1
def allC (ws : List WD) (a : Nat) (l : List (List Nat)) : Prop := ∀ i (hi : i < l.length), isC ws (a + i) l[i]
def anyC (ws : List WD) (a : Nat) (l : List (List Nat)) : Prop := ∃ s ∈ l, isC ws a s
noncomputable instance (ws : List WD) (a : Nat) (l : List (List Nat)) : Decidable (allC ws a l) := Classical.propDecidable _
noncomputable instance (ws : List WD) (a : Nat) (l : List (List Nat)) : Decidable (anyC ws a l) := Classical.propDecidable _


def oddL : List (List Nat) := [[108,97,115,116,95,105,110,115,101,114,116,95,105,100], [102,111,117,110,100,95,114,111,119,115], [114,111,119,95,99,111,117,110,116], [99,111,110,110,101,99,116,105,111,110,95,105,100], [103,101,116,95,100,105,97,103,110,111,115,116,105,99,115], [119,97,114,110,105,110,103,115], [101,114,114,111,114,115], [112,114,111,102,105,108,101], [112,114,111,102,105,108,101,115], [111,117,116,102,105,108,101], [100,117,109,112,102,105,108,101], [112,114,101,112,97,114,101], [101,120,101,99,117,116,101], [100,101,97,108,108,111,99,97,116,101], [104,97,110,100,108,101,114], [99,97,108,108], [120,97], [100,111], [115,113,108,95,99,97,108,99,95,102,111,117,110,100,95,114,111,119,115]]
def oddT : List Nat := [108,97,115,116,95,105,110,115,101,114,116,95,105,100,32,102,111,117,110,100,95,114,111,119,115,32,114,111,119,95,99,111,117,110,116,32,99,111,110,110,101,99,116,105,111,110,95,105,100,32,103,101,116,95,100,105,97,103,110,111,115,116,105,99,115,32,119,97,114,110,105,110,103,115,32,101,114,114,111,114,115,32,112,114,111,102,105,108,101,32,112,114,111,102,105,108,101,115,32,111,117,116,102,105,108,101,32,100,117,109,112,102,105,108,101,32,112,114,101,112,97,114,101,32,101,120,101,99,117,116,101,32,100,101,97,108,108,111,99,97,116,101,32,104,97,110,100,108,101,114,32,99,97,108,108,32,120,97,32,100,111,32,115,113,108,95,99,97,108,99,95,102,111,117,110,100,95,114,111,119,115]
theorem wrap_succ {a : Nat} (h : a < 2 ^ 60) : IntKind.i64.wrap ((a : Int) + 1) = ((a + 1 : Nat) : Int) := by
  simp +contextual (disch := first | (simp only [fr]; done) | omega) only [wps, fD, reduceLE, reduceLT, reduceLeDiff, UInt8.reduceToNat, ↓reduceIte, reduceEqDiff, reduceAdd, reduceCtorEq, reduceToNat]
  done
structure StdC (S : Set0) : Prop extends StdF S where
  ownC : ∀ f, f ∈ [9, 11, 12, 28, 29, 30, 31, 34, 36, 52, 53, 54, 55, 56, 57, 58, 59, 60, 61, 63, 94, 95, 96, 97, 98, 99, 100, 101, 102, 103, 104, 105, 106, 107, 132, 133] → sums S.exts f = none
  oddF : ∀ h : H, callW S.cfg nil1 62 [.str oddT] h fun v h' => v = .slice h.nx 0 19 19 ∧ h' = h.push (.cells (oddL.map V.str) 9 false)
  livesC : ∀ h : H, Exact S.cfg 26 [] h (.bool true)

variable {S : Set0} (hS : StdC S)
include hS
theorem peek_spec (r a : Nat) (lv : V) (ws : List WD) (h : H) (hr : r < h.nx) (hg : h.get r = some (.cells [lv, .int .i64 a] 115 false)) (ha : Wds h lv ws) : Pure S.cfg 106 [.ptr r 0] h fun v _ => v = .agg (wordAt ws a).cells := by
  refine into Tryd.f106 _ Tryd.func106 (hS.ownC _ (by decide)) rfl rfl (by kernel_rfl) (by kernel_rfl) ?_
  have a1 := ha.len
  have hn : ¬ r = h.nx := by omega
  have hn' : ¬ h.nx = r := by omega
  by_cases hlt : a < ws.length
  · obtain ⟨b, o, m, c, e, fl, rfl, hbn, hgb, w0, w1⟩ := ha.get hlt
    have hb' : ¬ b = h.nx := by omega
    simp +contextual (disch := first | (simp only [fr]; done) | omega | (simp only [Knx]; omega) | (apply Nat.le_antisymm <;> simp only [Knx] <;> omega) | exact dok (by kernel_rfl)) only [draw_calm, draw_calmA, wpy, fD, reduceLE, reduceLT, reduceLeDiff, UInt8.reduceToNat, ↓reduceIte, reduceEqDiff, reduceAdd, reduceCtorEq, reduceToNat, Tryd.f106, hg, hn, hn', a1, hlt, hgb, hb', w0, w1, WD.cells]
    rw [wordAt_lt hlt]
    exact ⟨((Ext.refl h).push _).put (Nat.le_refl _) _, rfl⟩
  · simp +contextual (disch := first | (simp only [fr]; done) | omega | (simp only [Knx]; omega) | (apply Nat.le_antisymm <;> simp only [Knx] <;> omega) | exact dok (by kernel_rfl)) only [draw_calm, draw_calmA, wpy, fD, reduceLE, reduceLT, reduceLeDiff, UInt8.reduceToNat, ↓reduceIte, reduceEqDiff, reduceAdd, reduceCtorEq, reduceToNat, Tryd.f106, hg, hn, hn', a1, hlt]
    rw [wordAt_ge hlt]
    exact ⟨((Ext.refl h).push _).put (Nat.le_refl _) _, rfl⟩
theorem is_spec (r a : Nat) (lv : V) (ws : List WD) (s : List Nat) (h : H) (hs : 0 < s.length) (hsb : Bytes s) (hr : r < h.nx) (hg : h.get r = some (.cells [lv, .int .i64 a] 115 false)) (ha : Wds h lv ws) (hl : ∀ o n m, lv ≠ .slice r o n m) (hw : ws.length < 2 ^ 40) : callW S.cfg (fun k => k = r) 57 [.ptr r 0, .str s] h fun v h' => v = bo (isC ws a s) ∧ But r h h' ∧ h'.get r = some (.cells [lv, .int .i64 (a + if isC ws a s then 1 else 0 : Nat)] 115 false) := by
  refine into Tryd.f57 _ Tryd.func57 (hS.ownC _ (by decide)) rfl rfl (by kernel_rfl) (by kernel_rfl) ?_
  simp +contextual (disch := first | (simp only [fr]; done) | omega | (simp only [Knx]; omega) | (apply Nat.le_antisymm <;> simp only [Knx] <;> omega) | fail) only [wpy, fD, reduceLE, reduceLT, reduceLeDiff, UInt8.reduceToNat, ↓reduceIte, reduceEqDiff, reduceAdd, reduceCtorEq, reduceToNat, Tryd.f57]
  refine callF_pure (peek_spec hS r a lv ws h hr hg ha) ?_
  rintro v h1 hx rfl
  have hn : ¬ r = h1.nx := by have := hx.1; omega
  have hg1 : h1.get r = some (.cells [lv, .int .i64 a] 115 false) := by rw [hx.2 r hr]; exact hg
  simp +contextual (disch := first | (simp only [fr]; done) | omega | (simp only [Knx]; omega) | (apply Nat.le_antisymm <;> simp only [Knx] <;> omega) | exact dok (by kernel_rfl)) only [draw_calm, draw_calmA, wpy, fD, reduceLE, reduceLT, reduceLeDiff, UInt8.reduceToNat, ↓reduceIte, reduceEqDiff, reduceAdd, reduceCtorEq, reduceToNat, Tryd.f57, hn, hg1, hs, WD.cells]
  have hb1 : But r h ((h1.push (Ob.cells [V.int IntKind.i64 0, V.str [], V.int IntKind.i64 0] 36 false)).put h1.nx (Ob.cells [V.int IntKind.i64 (wordAt ws a).kind, V.str (wordAt ws a).text, V.int IntKind.i64 (wordAt ws a).at_] 36 false)) := But.of_ext ((hx.push _).put hx.1 _)
  have hyes : isC ws a s → bo True = bo (isC ws a s) ∧ some (Ob.cells [lv, V.int IntKind.i64 (IntKind.i64.wrap (↑a + 1))] 115 false) = some (Ob.cells [lv, V.int IntKind.i64 ↑(a + if isC ws a s then 1 else 0)] 115 false) := fun hc => by
    have hlt := isC_lt hc
    exact ⟨by rw [eq_true hc], by rw [if_pos hc, wrap_succ (by omega)]⟩
  have hno : ¬ isC ws a s → bo False = bo (isC ws a s) ∧ some (Ob.cells [lv, V.int IntKind.i64 ↑a] 115 false) = some (Ob.cells [lv, V.int IntKind.i64 ↑(a + if isC ws a s then 1 else 0)] 115 false) := fun hc => by
    exact ⟨by rw [eq_false hc], by rw [if_neg hc]; rfl⟩
  refine ⟨.inr (.inl hx.1), fun q => ⟨fun w => ?_, fun w => ?_⟩, fun q => ⟨fun w => ?_, fun w => ?_⟩⟩
  · obtain ⟨g1, g2⟩ := hyes ⟨by rw [kindOf, if_pos q]; exact w.1, w.2⟩
    rw [w.1, w.2] at hb1
    exact ⟨g1, hb1.put _, g2⟩
  · obtain ⟨g1, g2⟩ := hno fun hc => w ⟨by have := hc.1; rw [kindOf, if_pos q] at this; exact this, hc.2⟩
    exact ⟨g1, hb1, g2⟩
  · obtain ⟨g1, g2⟩ := hyes ⟨by rw [kindOf, if_neg q]; exact w.1, w.2⟩
    rw [w.1, w.2] at hb1
    exact ⟨g1, hb1.put _, g2⟩
  · obtain ⟨g1, g2⟩ := hno fun hc => w ⟨by have := hc.1; rw [kindOf, if_neg q] at this; exact this, hc.2⟩
    exact ⟨g1, hb1, g2⟩
theorem reads_spec (lv : V) (ws : List WD) (h : H) (ha : Wds h lv ws) : Pure S.cfg 56 [lv] h fun v h' => v = .ptr h.nx 0 ∧ h' = h.push (.cells [lv, .int .i64 0] 115 false) := by
  refine into Tryd.f56 _ Tryd.func56 (hS.ownC _ (by decide)) rfl rfl (by kernel_rfl) (by kernel_rfl) ?_
  obtain ⟨c1, c2⟩ := ha.cell
  simp +contextual (disch := first | (simp only [fr]; done) | omega | (simp only [Knx]; omega) | (apply Nat.le_antisymm <;> simp only [Knx] <;> omega) | fail) only [wpy, fD, reduceLE, reduceLT, reduceLeDiff, UInt8.reduceToNat, ↓reduceIte, reduceEqDiff, reduceAdd, reduceCtorEq, reduceToNat, Tryd.f56, c1, c2]
  exact (Ext.refl h).push _
theorem in_spec (s : List Nat) (m : Nat) (l : List (List Nat)) (n : Nat) (h : H) (hm : m < h.nx) (hg : h.get m = some (.map (setE 0 l) n)) : Pure S.cfg 96 [.str s, .map m] h fun v _ => v = bo (s ∈ l) := by
  refine into Tryd.f96 _ Tryd.func96 (hS.ownC _ (by decide)) rfl rfl (by kernel_rfl) (by kernel_rfl) ?_
  simp +contextual (disch := first | (simp only [fr]; done) | omega | (simp only [Knx]; omega) | (apply Nat.le_antisymm <;> simp only [Knx] <;> omega) | fail) only [wpy, fD, reduceLE, reduceLT, reduceLeDiff, UInt8.reduceToNat, ↓reduceIte, reduceEqDiff, reduceAdd, reduceCtorEq, reduceToNat, Tryd.f96]
  obtain ⟨q1, q2⟩ := findV_set s l 0 0
  by_cases hs : s ∈ l
  · obtain ⟨j, q1⟩ := q1 hs
    refine lookup_by (d := .string) (z := .agg []) (k := .str s) (es := setE 0 l) (clock := n) (r := m) ?_ ?_ (by kernel_rfl) rfl hg q1 ?_
    · simp +contextual (disch := first | (simp only [fr]; done) | omega | (simp only [Knx]; omega) | (apply Nat.le_antisymm <;> simp only [Knx] <;> omega) | fail) only [wpy, fD, reduceLE, reduceLT, reduceLeDiff, UInt8.reduceToNat, ↓reduceIte, reduceEqDiff, reduceAdd, reduceCtorEq, reduceToNat]
    · simp +contextual (disch := first | (simp only [fr]; done) | omega | (simp only [Knx]; omega) | (apply Nat.le_antisymm <;> simp only [Knx] <;> omega) | fail) only [wpy, fD, reduceLE, reduceLT, reduceLeDiff, UInt8.reduceToNat, ↓reduceIte, reduceEqDiff, reduceAdd, reduceCtorEq, reduceToNat]
    simp +contextual (disch := first | (simp only [fr]; done) | omega | (simp only [Knx]; omega) | (apply Nat.le_antisymm <;> simp only [Knx] <;> omega) | fail) only [wpy, fD, reduceLE, reduceLT, reduceLeDiff, UInt8.reduceToNat, ↓reduceIte, reduceEqDiff, reduceAdd, reduceCtorEq, reduceToNat, Tryd.f96, lkV, cond_true, eq_true hs]
    exact ((Ext.refl h).push _).put (Nat.le_refl _) _
  · refine lookup_by (d := .string) (z := .agg []) (k := .str s) (es := setE 0 l) (clock := n) (r := m) ?_ ?_ (by kernel_rfl) rfl hg (q2 hs) ?_
    · simp +contextual (disch := first | (simp only [fr]; done) | omega | (simp only [Knx]; omega) | (apply Nat.le_antisymm <;> simp only [Knx] <;> omega) | fail) only [wpy, fD, reduceLE, reduceLT, reduceLeDiff, UInt8.reduceToNat, ↓reduceIte, reduceEqDiff, reduceAdd, reduceCtorEq, reduceToNat]
    · simp +contextual (disch := first | (simp only [fr]; done) | omega | (simp only [Knx]; omega) | (apply Nat.le_antisymm <;> simp only [Knx] <;> omega) | fail) only [wpy, fD, reduceLE, reduceLT, reduceLeDiff, UInt8.reduceToNat, ↓reduceIte, reduceEqDiff, reduceAdd, reduceCtorEq, reduceToNat]
    simp +contextual (disch := first | (simp only [fr]; done) | omega | (simp only [Knx]; omega) | (apply Nat.le_antisymm <;> simp only [Knx] <;> omega) | fail) only [wpy, fD, reduceLE, reduceLT, reduceLeDiff, UInt8.reduceToNat, ↓reduceIte, reduceEqDiff, reduceAdd, reduceCtorEq, reduceToNat, Tryd.f96, lkV, cond_true, eq_false hs]
    exact ((Ext.refl h).push _).put (Nat.le_refl _) _
theorem set_spec (h : H) : Pure S.cfg 94 [.str oddT] h fun v h' => ∃ m n, v = .map m ∧ h.nx ≤ m ∧ m < h'.nx ∧ h'.get m = some (.map (setE 0 oddL) n) := by
  refine into Tryd.f94 _ Tryd.func94 (hS.ownC _ (by decide)) rfl rfl (by kernel_rfl) (by kernel_rfl) ?_
  simp +contextual (disch := first | (simp only [fr]; done) | omega | (simp only [Knx]; omega) | (apply Nat.le_antisymm <;> simp only [Knx] <;> omega) | fail) only [wpy, fD, reduceLE, reduceLT, reduceLeDiff, UInt8.reduceToNat, ↓reduceIte, reduceEqDiff, reduceAdd, reduceCtorEq, reduceToNat, Tryd.f94]
  rw [opW_makeMap0]
  simp +contextual (disch := first | (simp only [fr]; done) | omega | (simp only [Knx]; omega) | (apply Nat.le_antisymm <;> simp only [Knx] <;> omega) | fail) only [wpy, fD, reduceLE, reduceLT, reduceLeDiff, UInt8.reduceToNat, ↓reduceIte, reduceEqDiff, reduceAdd, reduceCtorEq, reduceToNat, Tryd.f94]
  have hfa := hS.oddF (h.push (.map [] 0))
  refine ⟨nil1, fun _ q => q.elim, callW_mono hfa (fun _ q => q) ?_⟩
  rintro v h' ⟨rfl, rfl⟩
  simp +contextual (disch := first | (simp only [fr]; done) | omega | (simp only [Knx]; omega) | (apply Nat.le_antisymm <;> simp only [Knx] <;> omega) | fail) only [wpy, fD, reduceLE, reduceLT, reduceLeDiff, UInt8.reduceToNat, ↓reduceIte, reduceEqDiff, reduceAdd, reduceCtorEq, reduceToNat, Tryd.f94]
  refine run_loop (fun k env h' => ∃ i : Nat, k = 19 - i ∧ i ≤ 19 ∧ env 3 = .map h.nx ∧ env 8 = .slice (h.nx + 1) 0 19 19 ∧ env 9 = .int .i64 (19 : Nat) ∧ env 10 = .int .i64 i ∧ h.nx + 2 ≤ h'.nx ∧ Ext h h' ∧ h'.get h.nx = some (.map (setE 0 (oddL.take i)) i) ∧ h'.get (h.nx + 1) = some (.cells (oddL.map V.str) 9 false)) 19 ⟨0, ?_⟩ ?_
  · simp +contextual (disch := first | (simp only [fr]; done) | omega | (simp only [Knx]; omega) | (apply Nat.le_antisymm <;> simp only [Knx] <;> omega) | fail) only [wpy, fD, reduceLE, reduceLT, reduceLeDiff, UInt8.reduceToNat, ↓reduceIte, reduceEqDiff, reduceAdd, reduceCtorEq, reduceToNat]
    exact ⟨((Ext.refl h).push _).push _, rfl⟩
  rintro k env h' ⟨i, rfl, hi, e3, e8, e9, e10, hn, hx, hg, hgl⟩
  by_cases hi2 : i < 19
  · have hil : i < oddL.length := hi2
    have hgi : (oddL.map V.str)[i]? = some (.str oddL[i]) := by rw [List.getElem?_map, List.getElem?_eq_getElem hil]; rfl
    have hni : oddL[i] ∉ oddL.take i := by
      have : ∀ j : Fin 19, oddL[j.val]'j.isLt ∉ oddL.take j.val := by decide +kernel
      exact this ⟨i, hi2⟩
    simp +contextual (disch := first | (simp only [fr]; done) | omega | (simp only [Knx]; omega) | (apply Nat.le_antisymm <;> simp only [Knx] <;> omega) | fail) only [wpy, fD, reduceLE, reduceLT, reduceLeDiff, UInt8.reduceToNat, ↓reduceIte, reduceEqDiff, reduceAdd, reduceCtorEq, reduceToNat, Tryd.f94, e3, e8, e9, e10, hg, hgl, hi2, hgi]
    refine update_new (d := .string) (z := .agg []) (kv := .str oddL[i]) (xv := .agg []) (es := setE 0 (oddL.take i)) (clock := i) (r := h.nx) ?_ ?_ ?_ (by kernel_rfl) rfl hg ((findV_set _ _ 0 0).2 hni) ?_ ?_
    · simp +contextual (disch := first | (simp only [fr]; done) | omega | (simp only [Knx]; omega) | (apply Nat.le_antisymm <;> simp only [Knx] <;> omega) | fail) only [wpy, fD, reduceLE, reduceLT, reduceLeDiff, UInt8.reduceToNat, ↓reduceIte, reduceEqDiff, reduceAdd, reduceCtorEq, reduceToNat]
    · simp +contextual (disch := first | (simp only [fr]; done) | omega | (simp only [Knx]; omega) | (apply Nat.le_antisymm <;> simp only [Knx] <;> omega) | fail) only [wpy, fD, reduceLE, reduceLT, reduceLeDiff, UInt8.reduceToNat, ↓reduceIte, reduceEqDiff, reduceAdd, reduceCtorEq, reduceToNat]
    · simp +contextual (disch := first | (simp only [fr]; done) | omega | (simp only [Knx]; omega) | (apply Nat.le_antisymm <;> simp only [Knx] <;> omega) | fail) only [wpy, fD, reduceLE, reduceLT, reduceLeDiff, UInt8.reduceToNat, ↓reduceIte, reduceEqDiff, reduceAdd, reduceCtorEq, reduceToNat]
    · exact .inr (by rw [fresh_def]; exact .inl (Nat.le_refl _))
    simp +contextual (disch := first | (simp only [fr]; done) | omega | (simp only [Knx]; omega) | (apply Nat.le_antisymm <;> simp only [Knx] <;> omega) | fail) only [wpy, fD, reduceLE, reduceLT, reduceLeDiff, UInt8.reduceToNat, ↓reduceIte, reduceEqDiff, reduceAdd, reduceCtorEq, reduceToNat, Tryd.f94, e3, e8, e9, e10, hg, hgl, hi2, hgi]
    refine ⟨_, ?_, i + 1, rfl, by omega, rfl, hn, hx.put (Nat.le_refl _) _, ?_⟩
    · omega
    rw [List.take_succ_eq_append_getElem hil, setE_snoc, List.length_take, Nat.zero_add, Nat.min_eq_left (by omega)]
  · simp +contextual (disch := first | (simp only [fr]; done) | omega | (simp only [Knx]; omega) | (apply Nat.le_antisymm <;> simp only [Knx] <;> omega) | fail) only [wpy, fD, reduceLE, reduceLT, reduceLeDiff, UInt8.reduceToNat, ↓reduceIte, reduceEqDiff, reduceAdd, reduceCtorEq, reduceToNat, Tryd.f94, e3, e8, e9, e10, hg, hgl, hi2]
    refine ⟨hx, h.nx, 19, rfl, Nat.le_refl _, by omega, ?_⟩
    have : i = 19 := by omega
    subst this
    exact hg
theorem rEither_spec (r a : Nat) (lv : V) (ws : List WD) (l : List (List Nat)) (b : Nat) (h : H) (hl0 : ∀ s ∈ l, 0 < s.length ∧ Bytes s) (hll : l.length < 2 ^ 40) (hr : r < h.nx) (hb : b < h.nx) (hbr : b ≠ r) (hgb : h.get b = some (.cells (l.map V.str) 9 false)) (hg : h.get r = some (.cells [lv, .int .i64 a] 115 false)) (ha : Wds h lv ws) (hl : ∀ o n m, lv ≠ .slice r o n m) (hw : ws.length < 2 ^ 40) : callW S.cfg (fun k => k = r) 95 [.ptr r 0, .slice b 0 l.length l.length] h fun v h' => v = bo (anyC ws a l) ∧ But r h h' ∧ h'.get r = some (.cells [lv, .int .i64 (a + if anyC ws a l then 1 else 0 : Nat)] 115 false) := by
  refine into Tryd.f95 _ Tryd.func95 (hS.ownC _ (by decide)) rfl rfl (by kernel_rfl) (by kernel_rfl) ?_
  simp +contextual (disch := first | (simp only [fr]; done) | omega | (simp only [Knx]; omega) | (apply Nat.le_antisymm <;> simp only [Knx] <;> omega) | fail) only [wpy, fD, reduceLE, reduceLT, reduceLeDiff, UInt8.reduceToNat, ↓reduceIte, reduceEqDiff, reduceAdd, reduceCtorEq, reduceToNat, Tryd.f95]
  refine run_loop (fun k env h' => ∃ i : Nat, k = l.length - i ∧ i ≤ l.length ∧ env 0 = .ptr r 0 ∧ env 7 = .slice b 0 l.length l.length ∧ env 8 = .int .i64 l.length ∧ env 9 = .int .i64 i ∧ But r h h' ∧ h'.get r = some (.cells [lv, .int .i64 a] 115 false) ∧ ¬ anyC ws a (l.take i)) l.length ⟨0, ?_⟩ ?_
  · simp +contextual (disch := first | (simp only [fr]; done) | omega | (simp only [Knx]; omega) | (apply Nat.le_antisymm <;> simp only [Knx] <;> omega) | fail) only [wpy, fD, reduceLE, reduceLT, reduceLeDiff, UInt8.reduceToNat, ↓reduceIte, reduceEqDiff, reduceAdd, reduceCtorEq, reduceToNat]
    exact ⟨rfl, But.refl _ _, hg, fun ⟨_, q, _⟩ => by cases q⟩
  rintro k env h' ⟨i, rfl, hi, e0, e7, e8, e9, hx, hg', hno⟩
  by_cases hi2 : i < l.length
  · have hgi : (l.map V.str)[i]? = some (.str l[i]) := by rw [List.getElem?_map, List.getElem?_eq_getElem hi2]; rfl
    have hgb' : h'.get b = some (.cells (l.map V.str) 9 false) := by rw [hx.2 b hb hbr]; exact hgb
    obtain ⟨s0, s1⟩ := hl0 _ (List.getElem_mem hi2)
    simp +contextual (disch := first | (simp only [fr]; done) | omega | (simp only [Knx]; omega) | (apply Nat.le_antisymm <;> simp only [Knx] <;> omega) | fail) only [wpy, fD, reduceLE, reduceLT, reduceLeDiff, UInt8.reduceToNat, ↓reduceIte, reduceEqDiff, reduceAdd, reduceCtorEq, reduceToNat, Tryd.f95, e0, e7, e8, e9, hgb', hi2, hgi]
    refine callF_of (is_spec hS r a lv ws l[i] h' s0 s1 (Nat.lt_of_lt_of_le hr hx.1) hg' (ha.but hx hl) hl hw) (fun k q => by rw [fresh_def]; exact .inr q) ?_
    rintro v h2 ⟨rfl, hx2, hg2⟩
    by_cases hc : isC ws a l[i]
    · have hany : anyC ws a l := ⟨l[i], List.getElem_mem hi2, hc⟩
      rw [if_pos hc] at hg2
      simp +contextual (disch := first | (simp only [fr]; done) | omega | (simp only [Knx]; omega) | (apply Nat.le_antisymm <;> simp only [Knx] <;> omega) | fail) only [wpy, fD, reduceLE, reduceLT, reduceLeDiff, UInt8.reduceToNat, ↓reduceIte, reduceEqDiff, reduceAdd, reduceCtorEq, reduceToNat, Tryd.f95, e0, e7, e8, e9, hgb', hi2, hgi, hc]
      exact ⟨by rw [eq_true hany], hx.trans hx2, by rw [if_pos hany]; exact hg2⟩
    · rw [if_neg hc] at hg2
      simp +contextual (disch := first | (simp only [fr]; done) | omega | (simp only [Knx]; omega) | (apply Nat.le_antisymm <;> simp only [Knx] <;> omega) | fail) only [wpy, fD, reduceLE, reduceLT, reduceLeDiff, UInt8.reduceToNat, ↓reduceIte, reduceEqDiff, reduceAdd, reduceCtorEq, reduceToNat, Tryd.f95, e0, e7, e8, e9, hgb', hi2, hgi, hc]
      refine ⟨_, ?_, i + 1, rfl, by omega, rfl, hx.trans hx2, hg2, ?_⟩
      · omega
      rintro ⟨s, hs, hq⟩
      rw [List.take_succ_eq_append_getElem hi2, List.mem_append] at hs
      rcases hs with hs | hs
      · exact hno ⟨s, hs, hq⟩
      · rw [List.mem_singleton] at hs
        rw [hs] at hq
        exact hc hq
  · simp +contextual (disch := first | (simp only [fr]; done) | omega | (simp only [Knx]; omega) | (apply Nat.le_antisymm <;> simp only [Knx] <;> omega) | fail) only [wpy, fD, reduceLE, reduceLT, reduceLeDiff, UInt8.reduceToNat, ↓reduceIte, reduceEqDiff, reduceAdd, reduceCtorEq, reduceToNat, Tryd.f95, e0, e7, e8, e9, hi2]
    rw [List.take_of_length_le (by omega)] at hno
    exact ⟨by rw [eq_false hno], hx, by rw [if_neg hno]; exact hg'⟩
theorem rAll_spec (r a : Nat) (lv : V) (ws : List WD) (l : List (List Nat)) (b : Nat) (h : H) (hl0 : ∀ s ∈ l, 0 < s.length ∧ Bytes s) (hll : l.length < 2 ^ 40) (hr : r < h.nx) (hb : b < h.nx) (hbr : b ≠ r) (hgb : h.get b = some (.cells (l.map V.str) 9 false)) (hg : h.get r = some (.cells [lv, .int .i64 a] 115 false)) (ha : Wds h lv ws) (hl : ∀ o n m, lv ≠ .slice r o n m) (hw : ws.length < 2 ^ 40) (haw : a ≤ 2 ^ 40) : callW S.cfg (fun k => k = r) 98 [.ptr r 0, .slice b 0 l.length l.length] h fun v h' => v = bo (allC ws a l) ∧ But r h h' ∧ h'.get r = some (.cells [lv, .int .i64 (a + if allC ws a l then l.length else 0 : Nat)] 115 false) := by
  refine into Tryd.f98 _ Tryd.func98 (hS.ownC _ (by decide)) rfl rfl (by kernel_rfl) (by kernel_rfl) ?_
  simp +contextual (disch := first | (simp only [fr]; done) | omega | (simp only [Knx]; omega) | (apply Nat.le_antisymm <;> simp only [Knx] <;> omega) | fail) only [wpy, fD, reduceLE, reduceLT, reduceLeDiff, UInt8.reduceToNat, ↓reduceIte, reduceEqDiff, reduceAdd, reduceCtorEq, reduceToNat, Tryd.f98, hg]
  refine run_loop (fun k env h' => ∃ i : Nat, k = l.length - i ∧ i ≤ l.length ∧ env 0 = .ptr r 0 ∧ env 5 = .int .i64 a ∧ env 12 = .slice b 0 l.length l.length ∧ env 13 = .int .i64 l.length ∧ env 14 = .int .i64 i ∧ But r h h' ∧ h'.get r = some (.cells [lv, .int .i64 (a + i : Nat)] 115 false) ∧ ∀ j (hj : j < l.length), j < i → isC ws (a + j) l[j]) l.length ⟨0, ?_⟩ ?_
  · simp +contextual (disch := first | (simp only [fr]; done) | omega | (simp only [Knx]; omega) | (apply Nat.le_antisymm <;> simp only [Knx] <;> omega) | fail) only [wpy, fD, reduceLE, reduceLT, reduceLeDiff, UInt8.reduceToNat, ↓reduceIte, reduceEqDiff, reduceAdd, reduceCtorEq, reduceToNat]
    exact ⟨rfl, But.refl _ _, hg, fun j _ hj => by omega⟩
  rintro k env h' ⟨i, rfl, hi, e0, e5, e12, e13, e14, hx, hg', hno⟩
  by_cases hi2 : i < l.length
  · have hgi : (l.map V.str)[i]? = some (.str l[i]) := by rw [List.getElem?_map, List.getElem?_eq_getElem hi2]; rfl
    have hgb' : h'.get b = some (.cells (l.map V.str) 9 false) := by rw [hx.2 b hb hbr]; exact hgb
    obtain ⟨s0, s1⟩ := hl0 _ (List.getElem_mem hi2)
    simp +contextual (disch := first | (simp only [fr]; done) | omega | (simp only [Knx]; omega) | (apply Nat.le_antisymm <;> simp only [Knx] <;> omega) | fail) only [wpy, fD, reduceLE, reduceLT, reduceLeDiff, UInt8.reduceToNat, ↓reduceIte, reduceEqDiff, reduceAdd, reduceCtorEq, reduceToNat, Tryd.f98, e0, e5, e12, e13, e14, hgb', hi2, hgi]
    refine callF_of (is_spec hS r (a + i) lv ws l[i] h' s0 s1 (Nat.lt_of_lt_of_le hr hx.1) hg' (ha.but hx hl) hl hw) (fun k q => by rw [fresh_def]; exact .inr q) ?_
    rintro v h2 ⟨rfl, hx2, hg2⟩
    by_cases hc : isC ws (a + i) l[i]
    · rw [if_pos hc] at hg2
      simp +contextual (disch := first | (simp only [fr]; done) | omega | (simp only [Knx]; omega) | (apply Nat.le_antisymm <;> simp only [Knx] <;> omega) | fail) only [wpy, fD, reduceLE, reduceLT, reduceLeDiff, UInt8.reduceToNat, ↓reduceIte, reduceEqDiff, reduceAdd, reduceCtorEq, reduceToNat, Tryd.f98, e0, e5, e12, e13, e14, hgb', hi2, hgi, hc]
      refine ⟨_, ?_, i + 1, rfl, by omega, rfl, hx.trans hx2, hg2, ?_⟩
      · omega
      intro j hj hji
      by_cases hjj : j < i
      · exact hno j hj hjj
      · obtain rfl : j = i := by omega
        exact hc
    · have hnall : ¬ allC ws a l := fun q => hc (q i hi2)
      rw [if_neg hc] at hg2
      simp +contextual (disch := first | (simp only [fr]; done) | omega | (simp only [Knx]; omega) | (apply Nat.le_antisymm <;> simp only [Knx] <;> omega) | fail) only [wpy, fD, reduceLE, reduceLT, reduceLeDiff, UInt8.reduceToNat, ↓reduceIte, reduceEqDiff, reduceAdd, reduceCtorEq, reduceToNat, Tryd.f98, e0, e5, e12, e13, e14, hgb', hi2, hgi, hc, hg2]
      exact ⟨by rw [eq_false hnall], (hx.trans hx2).put _, by rw [if_neg hnall]; rfl⟩
  · have hall : allC ws a l := fun j hj => hno j hj (by omega)
    simp +contextual (disch := first | (simp only [fr]; done) | omega | (simp only [Knx]; omega) | (apply Nat.le_antisymm <;> simp only [Knx] <;> omega) | fail) only [wpy, fD, reduceLE, reduceLT, reduceLeDiff, UInt8.reduceToNat, ↓reduceIte, reduceEqDiff, reduceAdd, reduceCtorEq, reduceToNat, Tryd.f98, e0, e5, e12, e13, e14, hi2]
    obtain rfl : i = l.length := by omega
    exact ⟨by rw [eq_true hall], hx, by rw [if_pos hall]; exact hg'⟩
def fileL : List (List Nat) := [[108,111,97,100], [100,97,116,97], [108,111,99,97,108], [105,110,102,105,108,101]]
theorem file_spec (lv : V) (ws : List WD) (h : H) (ha : Wds h lv ws) (hw : ws.length < 2 ^ 40) : Pure S.cfg 97 [lv] h fun v _ => v = bo (allC ws 0 fileL) := by
  refine into Tryd.f97 _ Tryd.func97 (hS.ownC _ (by decide)) rfl rfl (by kernel_rfl) (by kernel_rfl) ?_
  simp +contextual (disch := first | (simp only [fr]; done) | omega | (simp only [Knx]; omega) | (apply Nat.le_antisymm <;> simp only [Knx] <;> omega) | fail) only [wpy, fD, reduceLE, reduceLT, reduceLeDiff, UInt8.reduceToNat, ↓reduceIte, reduceEqDiff, reduceAdd, reduceCtorEq, reduceToNat, Tryd.f97]
  refine callF_pure (reads_spec hS lv ws h ha) ?_
  rintro v h1 hx ⟨rfl, rfl⟩
  simp +contextual (disch := first | (simp only [fr]; done) | omega | (simp only [Knx]; omega) | (apply Nat.le_antisymm <;> simp only [Knx] <;> omega) | fail) only [wpy, fD, reduceLE, reduceLT, reduceLeDiff, UInt8.reduceToNat, ↓reduceIte, reduceEqDiff, reduceAdd, reduceCtorEq, reduceToNat, Tryd.f97]
  have hb2 : h.nx < (h.push (Ob.cells [lv, V.int IntKind.i64 0] 115 false)).nx := Nat.lt_succ_self _
  have hne : ∀ o n m, lv ≠ .slice h.nx o n m := fun o n m q => by
    subst q
    rcases ha with ⟨q, _⟩ | ⟨b, _, _, _, _, _, q, hb, _⟩
    · cases q
    · cases q; omega
  refine callF_of (rAll_spec hS h.nx 0 lv ws fileL (h.nx + 1) ((h.push (.cells [lv, .int .i64 0] 115 false)).push (.cells (fileL.map V.str) 9 false)) (goodTs (by decide)) (by decide) (Nat.lt_succ_of_lt hb2) (Nat.lt_succ_self _) (by omega) ?_ ?_ ((ha.ext ((Ext.refl h).push _)).ext ((Ext.refl _).push _)) hne hw (by decide)) (fun k q => by rw [fresh_def]; exact .inl (by omega)) ?_
  · exact push_eq rfl
  · rw [push_ne (show ¬ h.nx = h.nx + 1 by omega), push_eq rfl]; rfl
  rintro v h2 ⟨rfl, hx2, _⟩
  simp +contextual (disch := first | (simp only [fr]; done) | omega | (simp only [Knx]; omega) | (apply Nat.le_antisymm <;> simp only [Knx] <;> omega) | fail) only [wpy, fD, reduceLE, reduceLT, reduceLeDiff, UInt8.reduceToNat, ↓reduceIte, reduceEqDiff, reduceAdd, reduceCtorEq, reduceToNat, Tryd.f97]
  exact Ext.but (((Ext.refl h).push _).push _) hx2 (Nat.le_refl _)
end
end Go.Proofs.YtkibhdbmamfjcaaDoor
set_option linter.unusedSimpArgs false
set_option linter.unusedVariables false
set_option linter.defProp false
set_option maxRecDepth 10000
namespace Go.Proofs.YtkibhdbmamfjcaaDoor
open Int (reduceLE reduceLT reduceToNat)
open Nat (reduceLeDiff reduceEqDiff reduceAdd)
open Go.Proofs Go.Lx Go.Wx Go.IntWalk
noncomputable section

def insL : List (List Nat) := [[105,110,115,101,114,116], [114,101,112,108,97,99,101]]
def intoT : List Nat := [105,110,116,111]
def oddW (ws : List WD) (i : Nat) : Prop := (wordAt ws i).kind = 9 ∨ ((wordAt ws i).kind = 5 ∧ (wordAt ws i).text = [58, 61]) ∨ ((wordAt ws i).kind = 1 ∧ (wordAt ws i).text ∈ oddL) ∨ ((wordAt ws i).kind = 1 ∧ (wordAt ws i).text = intoT ∧ ¬ (anyC ws 0 insL ∧ i = 1) ∧ ¬ allC ws 0 fileL)
def oddsP (ws : List WD) : Prop := ∃ i, i < ws.length ∧ oddW ws i

variable {S : Set0} (hS : StdC S)
include hS
theorem cOdd_spec (lv : V) (ws : List WD) (h : H) (ha : Wds h lv ws) (hw : ws.length < 2 ^ 40) : Pure S.cfg 52 [lv] h fun v _ => v = bo (oddsP ws) := by
  refine into Tryd.f52 _ Tryd.func52 (hS.ownC _ (by decide)) rfl rfl (by kernel_rfl) (by kernel_rfl) ?_
  have hlv : ∀ k, h.nx ≤ k → ∀ o n m, lv ≠ .slice k o n m := fun k hk o n m q => by
    subst q
    rcases ha with ⟨q, _⟩ | ⟨b, _, _, _, _, _, q, hb, _⟩
    · cases q
    · cases q; omega
  have a1 := ha.len
  simp +contextual (disch := first | (simp only [fr]; done) | omega | (simp only [Knx]; omega) | (apply Nat.le_antisymm <;> simp only [Knx] <;> omega) | fail) only [wpy, fD, reduceLE, reduceLT, reduceLeDiff, UInt8.reduceToNat, ↓reduceIte, reduceEqDiff, reduceAdd, reduceCtorEq, reduceToNat, Tryd.f52]
  refine callF_pure (set_spec hS h) ?_
  rintro v h1 hx1 ⟨m, n, rfl, hm0, hm1, hgm⟩
  simp +contextual (disch := first | (simp only [fr]; done) | omega | (simp only [Knx]; omega) | (apply Nat.le_antisymm <;> simp only [Knx] <;> omega) | fail) only [wpy, fD, reduceLE, reduceLT, reduceLeDiff, UInt8.reduceToNat, ↓reduceIte, reduceEqDiff, reduceAdd, reduceCtorEq, reduceToNat, Tryd.f52]
  refine callF_pure (reads_spec hS lv ws h1 (ha.ext hx1)) ?_
  rintro v h2 hx2 ⟨rfl, rfl⟩
  have hx1n := hx1.1
  simp +contextual (disch := first | (simp only [fr]; done) | omega | (simp only [Knx]; omega) | (apply Nat.le_antisymm <;> simp only [Knx] <;> omega) | fail) only [wpy, fD, reduceLE, reduceLT, reduceLeDiff, UInt8.reduceToNat, ↓reduceIte, reduceEqDiff, reduceAdd, reduceCtorEq, reduceToNat, Tryd.f52]
  refine callF_of (rEither_spec hS h1.nx 0 lv ws insL (h1.nx + 1) ((h1.push (.cells [lv, .int .i64 0] 115 false)).push (.cells (insL.map V.str) 9 false)) (goodTs (by decide)) (by decide) (Nat.lt_succ_of_lt (Nat.lt_succ_self _)) (Nat.lt_succ_self _) (by omega) (push_eq rfl) ?_ (((ha.ext hx1).ext ((Ext.refl h1).push _)).ext ((Ext.refl _).push _)) (hlv _ hx1n) hw) (fun k q => by rw [fresh_def]; exact .inl (by omega)) ?_
  · rw [push_ne (show ¬ h1.nx = h1.nx + 1 by omega), push_eq rfl]; rfl
  rintro v h3 ⟨rfl, hx3, _⟩
  have hX3 : Ext h1 h3 := Ext.but (((Ext.refl h1).push _).push _) hx3 (Nat.le_refl _)
  simp +contextual (disch := first | (simp only [fr]; done) | omega | (simp only [Knx]; omega) | (apply Nat.le_antisymm <;> simp only [Knx] <;> omega) | fail) only [wpy, fD, reduceLE, reduceLT, reduceLeDiff, UInt8.reduceToNat, ↓reduceIte, reduceEqDiff, reduceAdd, reduceCtorEq, reduceToNat, Tryd.f52, a1]
  refine run_loop (fun k env h' => ∃ i : Nat, k = ws.length - i ∧ i ≤ ws.length ∧ env 0 = lv ∧ env 3 = .map m ∧ env 5 = bo (anyC ws 0 insL) ∧ env 14 = lv ∧ env 15 = .int .i64 ws.length ∧ env 16 = .int .i64 i ∧ Ext h1 h' ∧ ∀ j, j < i → ¬ oddW ws j) ws.length ⟨0, ?_⟩ ?_
  · simp +contextual (disch := first | (simp only [fr]; done) | omega | (simp only [Knx]; omega) | (apply Nat.le_antisymm <;> simp only [Knx] <;> omega) | fail) only [wpy, fD, reduceLE, reduceLT, reduceLeDiff, UInt8.reduceToNat, ↓reduceIte, reduceEqDiff, reduceAdd, reduceCtorEq, reduceToNat]
    exact ⟨(Nat.sub_zero _).symm, hX3, fun j hj => by omega⟩
  rintro k env h' ⟨i, rfl, hi, e0, e3, e5, e14, e15, e16, hx, hno⟩
  have hxn := hx.1
  have ha' : Wds h' lv ws := (ha.ext hx1).ext hx
  by_cases hi2 : i < ws.length
  · obtain ⟨b, o, mc, c, e, fl, rfl, hbn, hgb, w0, w1⟩ := ha'.get hi2
    rw [← wordAt_lt hi2] at w1
    have hW : (wordAt ws i).cells = [.int .i64 (wordAt ws i).kind, .str (wordAt ws i).text, .int .i64 (wordAt ws i).at_] := rfl
    rw [hW] at w1
    have hyes : oddW ws i → oddsP ws := fun q => ⟨i, hi2, q⟩
    have hgm' : h'.get m = some (.map (setE 0 oddL) n) := by rw [hx.2 m hm1]; exact hgm
    have hnext : ¬ oddW ws i → ∀ j, j < i + 1 → ¬ oddW ws j := fun q j hj => by
      by_cases hji : j < i
      · exact hno j hji
      · obtain rfl : j = i := by omega
        exact q
    by_cases c9 : (wordAt ws i).kind = 9
    · simp +contextual (disch := first | (simp only [fr]; done) | omega | (simp only [Knx]; omega) | (apply Nat.le_antisymm <;> simp only [Knx] <;> omega) | exact dok (by kernel_rfl)) only [draw_calm, draw_calmA, wpy, fD, reduceLE, reduceLT, reduceLeDiff, UInt8.reduceToNat, ↓reduceIte, reduceEqDiff, reduceAdd, reduceCtorEq, reduceToNat, Tryd.f52, e0, e3, e5, e14, e15, e16, hi2, hgb, w0, w1, c9]
      exact ⟨.inr (by omega), hx1.trans ((hx.push _).put (by omega) _), by rw [eq_true (hyes (.inl c9))]⟩
    · by_cases c5 : (wordAt ws i).kind = 5
      · by_cases ct : (wordAt ws i).text = [58, 61]
        · simp +contextual (disch := first | (simp only [fr]; done) | omega | (simp only [Knx]; omega) | (apply Nat.le_antisymm <;> simp only [Knx] <;> omega) | exact dok (by kernel_rfl)) only [draw_calm, draw_calmA, wpy, fD, reduceLE, reduceLT, reduceLeDiff, UInt8.reduceToNat, ↓reduceIte, reduceEqDiff, reduceAdd, reduceCtorEq, reduceToNat, Tryd.f52, e0, e3, e5, e14, e15, e16, hi2, hgb, w0, w1, c9, c5, ct]
          exact ⟨.inr (by omega), hx1.trans ((hx.push _).put (by omega) _), by rw [eq_true (hyes (.inr (.inl ⟨c5, ct⟩)))]⟩
        · simp +contextual (disch := first | (simp only [fr]; done) | omega | (simp only [Knx]; omega) | (apply Nat.le_antisymm <;> simp only [Knx] <;> omega) | exact dok (by kernel_rfl)) only [draw_calm, draw_calmA, wpy, fD, reduceLE, reduceLT, reduceLeDiff, UInt8.reduceToNat, ↓reduceIte, reduceEqDiff, reduceAdd, reduceCtorEq, reduceToNat, Tryd.f52, e0, e3, e5, e14, e15, e16, hi2, hgb, w0, w1, c9, c5, ct]
          refine ⟨.inr (by omega), _, ?_, i + 1, rfl, by omega, rfl, (hx.push _).put (by omega) _, hnext ?_⟩
          · omega
          rintro (q | q | q | q)
          · exact c9 q
          · exact ct q.2
          · exact absurd (q.1.symm.trans c5) (by decide)
          · exact absurd (q.1.symm.trans c5) (by decide)
      · by_cases c1 : (wordAt ws i).kind = 1
        · simp +contextual (disch := first | (simp only [fr]; done) | omega | (simp only [Knx]; omega) | (apply Nat.le_antisymm <;> simp only [Knx] <;> omega) | exact dok (by kernel_rfl)) only [draw_calm, draw_calmA, wpy, fD, reduceLE, reduceLT, reduceLeDiff, UInt8.reduceToNat, ↓reduceIte, reduceEqDiff, reduceAdd, reduceCtorEq, reduceToNat, Tryd.f52, e0, e3, e5, e14, e15, e16, hi2, hgb, w0, w1, c9, c5, c1]
          refine ⟨.inr (by omega), callF_pure (in_spec hS _ m oddL n _ (by show m < h'.nx + 1; omega) ?_) ?_⟩
          · simp +contextual (disch := first | (simp only [fr]; done) | omega | (simp only [Knx]; omega) | (apply Nat.le_antisymm <;> simp only [Knx] <;> omega) | fail) only [wpy, fD, reduceLE, reduceLT, reduceLeDiff, UInt8.reduceToNat, ↓reduceIte, reduceEqDiff, reduceAdd, reduceCtorEq, reduceToNat, hgm']
          rintro v h4 hx4 rfl
          have hn4 : h'.nx + 1 ≤ h4.nx := hx4.1
          have hX4 : Ext h1 h4 := ((hx.push _).put (by omega) _).trans hx4
          have hg4 : h4.get h'.nx = some (.cells [.int .i64 (1 : Nat), .str (wordAt ws i).text, .int .i64 (wordAt ws i).at_] 36 false) := by
            rw [hx4.2 h'.nx (Nat.lt_succ_self _)]
            simp +contextual (disch := first | (simp only [fr]; done) | omega | (simp only [Knx]; omega) | (apply Nat.le_antisymm <;> simp only [Knx] <;> omega) | fail) only [wpy, fD, reduceLE, reduceLT, reduceLeDiff, UInt8.reduceToNat, ↓reduceIte, reduceEqDiff, reduceAdd, reduceCtorEq, reduceToNat]
          have ha4 : Wds h4 (V.slice b o ws.length mc) ws := (ha.ext hx1).ext hX4
          have hw4 : ¬ h'.nx = h4.nx := by omega
          by_cases cin : (wordAt ws i).text ∈ oddL
          · simp +contextual (disch := first | (simp only [fr]; done) | omega | (simp only [Knx]; omega) | (apply Nat.le_antisymm <;> simp only [Knx] <;> omega) | exact dok (by kernel_rfl)) only [draw_calm, draw_calmA, wpy, fD, reduceLE, reduceLT, reduceLeDiff, UInt8.reduceToNat, ↓reduceIte, reduceEqDiff, reduceAdd, reduceCtorEq, reduceToNat, Tryd.f52, e0, e3, e5, e14, e15, e16, hi2, hgb, w0, w1, c9, c5, c1, hg4, hw4, cin]
            exact ⟨hx1.trans hX4, by rw [eq_true (hyes (.inr (.inr (.inl ⟨c1, cin⟩))))]⟩
          · by_cases cto : (wordAt ws i).text = intoT
            · by_cases cw : anyC ws 0 insL ∧ i = 1
              · obtain ⟨cw, rfl⟩ := cw
                simp +contextual (disch := first | (simp only [fr]; done) | omega | (simp only [Knx]; omega) | (apply Nat.le_antisymm <;> simp only [Knx] <;> omega) | exact dok (by kernel_rfl)) only [draw_calm, draw_calmA, wpy, fD, reduceLE, reduceLT, reduceLeDiff, UInt8.reduceToNat, ↓reduceIte, reduceEqDiff, reduceAdd, reduceCtorEq, reduceToNat, Tryd.f52, e0, e3, e5, e14, e15, e16, hi2, hgb, w0, w1, c9, c5, c1, hg4, hw4, cin, cto, cw, intoT]
                refine ⟨fun q => absurd (cto ▸ q : (wordAt ws 1).text ∈ oddL) cin, fun _ => ?_⟩
                refine ⟨_, ?_, 1 + 1, rfl, by omega, rfl, hX4, hnext ?_⟩
                · omega
                rintro (q | q | q | q)
                · exact c9 q
                · exact c5 q.1
                · exact cin q.2
                · exact q.2.2.1 ⟨cw, rfl⟩
              · have cin' : ¬ [105, 110, 116, 111] ∈ oddL := by
                  rw [← show intoT = [105, 110, 116, 111] from rfl, ← cto]
                  exact cin
                have cw' : ¬ (anyC ws 0 insL ∧ i = 1) := cw
                simp +contextual (disch := first | (simp only [fr]; done) | omega | (simp only [Knx]; omega) | (apply Nat.le_antisymm <;> simp only [Knx] <;> omega) | exact dok (by kernel_rfl)) only [draw_calm, draw_calmA, wpy, fD, reduceLE, reduceLT, reduceLeDiff, UInt8.reduceToNat, ↓reduceIte, reduceEqDiff, reduceAdd, reduceCtorEq, reduceToNat, Tryd.f52, e0, e3, e5, e14, e15, e16, hi2, hgb, w0, w1, c9, c5, c1, hg4, hw4, cin', cto, cw', intoT]
                refine callF_pure (file_spec hS _ ws h4 ha4 hw) ?_
                rintro v h5 hx5 rfl
                by_cases cf : allC ws 0 fileL
                · simp +contextual (disch := first | (simp only [fr]; done) | omega | (simp only [Knx]; omega) | (apply Nat.le_antisymm <;> simp only [Knx] <;> omega) | exact dok (by kernel_rfl)) only [draw_calm, draw_calmA, wpy, fD, reduceLE, reduceLT, reduceLeDiff, UInt8.reduceToNat, ↓reduceIte, reduceEqDiff, reduceAdd, reduceCtorEq, reduceToNat, Tryd.f52, e0, e3, e5, e14, e15, e16, hi2, hgb, w0, w1, c9, c5, c1, hg4, hw4, cin', cto, cw', intoT, cf]
                  refine ⟨_, ?_, i + 1, rfl, by omega, rfl, hX4.trans hx5, hnext ?_⟩
                  · omega
                  rintro (q | q | q | q)
                  · exact c9 q
                  · exact c5 q.1
                  · exact cin q.2
                  · exact q.2.2.2 cf
                · simp +contextual (disch := first | (simp only [fr]; done) | omega | (simp only [Knx]; omega) | (apply Nat.le_antisymm <;> simp only [Knx] <;> omega) | exact dok (by kernel_rfl)) only [draw_calm, draw_calmA, wpy, fD, reduceLE, reduceLT, reduceLeDiff, UInt8.reduceToNat, ↓reduceIte, reduceEqDiff, reduceAdd, reduceCtorEq, reduceToNat, Tryd.f52, e0, e3, e5, e14, e15, e16, hi2, hgb, w0, w1, c9, c5, c1, hg4, hw4, cin', cto, cw', intoT, cf]
                  exact ⟨hx1.trans (hX4.trans hx5), by rw [eq_true (hyes (.inr (.inr (.inr ⟨c1, cto, cw, cf⟩))))]⟩
            · have cto' : ¬ (wordAt ws i).text = [105, 110, 116, 111] := cto
              simp +contextual (disch := first | (simp only [fr]; done) | omega | (simp only [Knx]; omega) | (apply Nat.le_antisymm <;> simp only [Knx] <;> omega) | exact dok (by kernel_rfl)) only [draw_calm, draw_calmA, wpy, fD, reduceLE, reduceLT, reduceLeDiff, UInt8.reduceToNat, ↓reduceIte, reduceEqDiff, reduceAdd, reduceCtorEq, reduceToNat, Tryd.f52, e0, e3, e5, e14, e15, e16, hi2, hgb, w0, w1, c9, c5, c1, hg4, hw4, cin, cto']
              refine ⟨_, ?_, i + 1, rfl, by omega, rfl, hX4, hnext ?_⟩
              · omega
              rintro (q | q | q | q)
              · exact c9 q
              · exact c5 q.1
              · exact cin q.2
              · exact cto q.2.1
        · simp +contextual (disch := first | (simp only [fr]; done) | omega | (simp only [Knx]; omega) | (apply Nat.le_antisymm <;> simp only [Knx] <;> omega) | exact dok (by kernel_rfl)) only [draw_calm, draw_calmA, wpy, fD, reduceLE, reduceLT, reduceLeDiff, UInt8.reduceToNat, ↓reduceIte, reduceEqDiff, reduceAdd, reduceCtorEq, reduceToNat, Tryd.f52, e0, e3, e5, e14, e15, e16, hi2, hgb, w0, w1, c9, c5, c1]
          refine ⟨.inr (by omega), _, ?_, i + 1, rfl, by omega, rfl, (hx.push _).put (by omega) _, hnext ?_⟩
          · omega
          rintro (q | q | q | q)
          · exact c9 q
          · exact c5 q.1
          · exact c1 q.1
          · exact c1 q.1
  · simp +contextual (disch := first | (simp only [fr]; done) | omega | (simp only [Knx]; omega) | (apply Nat.le_antisymm <;> simp only [Knx] <;> omega) | exact dok (by kernel_rfl)) only [draw_calm, draw_calmA, wpy, fD, reduceLE, reduceLT, reduceLeDiff, UInt8.reduceToNat, ↓reduceIte, reduceEqDiff, reduceAdd, reduceCtorEq, reduceToNat, Tryd.f52, e0, e3, e5, e14, e15, e16, hi2]
    exact ⟨hx1.trans hx, by
      have hno' : ¬ oddsP ws := fun ⟨j, hj, q⟩ => hno j (by omega) q
      rw [eq_false hno']⟩
end
end Go.Proofs.YtkibhdbmamfjcaaDoor
set_option linter.unusedSimpArgs false
set_option linter.unusedVariables false
set_option linter.defProp false
set_option maxRecDepth 10000
namespace Go.Proofs.YtkibhdbmamfjcaaDoor
open Int (reduceLE reduceLT reduceToNat)
open Nat (reduceLeDiff reduceEqDiff reduceAdd)
open Go.Proofs Go.Lx Go.Wx Go.IntWalk
noncomputable section
structure Rdr (h : H) (r : Nat) (lv : V) (ws : List WD) (a : Nat) : Prop where
  lt : r < h.nx
  get : h.get r = some (.cells [lv, .int .i64 a] 115 false)
  wds : Wds h lv ws
  ne : ∀ o n m, lv ≠ .slice r o n m
theorem Rdr.step {h h' : H} {r : Nat} {lv : V} {ws : List WD} {a a' : Nat} (R : Rdr h r lv ws a) (hb : But r h h') (hg : h'.get r = some (.cells [lv, .int .i64 (a' : Nat)] 115 false)) : Rdr h' r lv ws a' := ⟨Nat.lt_of_lt_of_le R.lt hb.1, hg, R.wds.but hb R.ne, R.ne⟩
theorem Rdr.ext {h h' : H} {r : Nat} {lv : V} {ws : List WD} {a : Nat} (R : Rdr h r lv ws a) (hx : Ext h h') : Rdr h' r lv ws a := ⟨Nat.lt_of_lt_of_le R.lt hx.1, by rw [hx.2 r R.lt]; exact R.get, R.wds.ext hx, R.ne⟩
theorem Wds.ne_new {h : H} {lv : V} {ws : List WD} (ha : Wds h lv ws) {k : Nat} (hk : h.nx ≤ k) : ∀ o n m, lv ≠ .slice k o n m := fun o n m q => by
  subst q
  rcases ha with ⟨q, _⟩ | ⟨b, _, _, _, _, _, q, hb, _⟩
  · cases q
  · cases q; omega
theorem Rdr.new {h : H} {lv : V} {ws : List WD} (ha : Wds h lv ws) : Rdr (h.push (.cells [lv, .int .i64 0] 115 false)) h.nx lv ws 0 := ⟨Nat.lt_succ_self _, push_eq rfl, ha.ext ((Ext.refl h).push _), ha.ne_new (Nat.le_refl _)⟩
def nameP (ws : List WD) (a : Nat) : Prop := (wordAt ws a).kind = 1 ∨ (wordAt ws a).kind = 2
def txt (ws : List WD) (a : Nat) : List Nat := (wordAt ws a).text
def knd (ws : List WD) (a : Nat) : Nat := (wordAt ws a).kind
def signP (ws : List WD) (a : Nat) : Prop := knd ws a = 5 ∧ (txt ws a = [43] ∨ txt ws a = [45])
noncomputable instance (ws : List WD) (a : Nat) : Decidable (nameP ws a) := Classical.propDecidable _
noncomputable instance (ws : List WD) (a : Nat) : Decidable (signP ws a) := Classical.propDecidable _
def tableF (ws : List WD) (a : Nat) : Option (List Nat × Nat) := if nameP ws a then (if isC ws (a + 1) [46] ∧ nameP ws (a + 2) then some (txt ws a ++ [46] ++ txt ws (a + 2), a + 3) else some (txt ws a, a + 1)) else none
def litF (ws : List WD) (a : Nat) : Option (List Nat × Nat) := if signP ws a then (if knd ws (a + 1) = 4 then some (txt ws a ++ txt ws (a + 1), a + 2) else none) else if knd ws a = 4 ∨ knd ws a = 3 ∨ nameP ws a then some (txt ws a, a + 1) else none
def assF (ws : List WD) (a : Nat) : Option (List Nat) := if isC ws a [61] then (match litF ws (a + 1) with
  | some (t, b) => if b = ws.length then some t else none
  | none => none) else none
theorem kind_lt {ws : List WD} {a k : Nat} (h : (wordAt ws a).kind = k) (hk : 0 < k) : a < ws.length := by
  apply Decidable.byContradiction
  intro hn
  rw [wordAt_ge hn] at h
  subst h
  exact absurd hk (by decide)

theorem tb_y {t : List Nat} {n a : Nat} : V.tuple [.str t, bo True] = V.tuple [.str ((some (t, n)).getD ([], a)).1, bo ((some (t, n)).isSome = true)] := by simp
theorem tb_n {a : Nat} : V.tuple [.str [], bo False] = V.tuple [.str ((none : Option (List Nat × Nat)).getD ([], a)).1, bo ((none : Option (List Nat × Nat)).isSome = true)] := by simp
theorem by1 (b : Nat) (h : b < 256) : 0 < [b].length ∧ Bytes [b] := ⟨Nat.one_pos, fun x hx => by rw [List.mem_singleton.1 hx]; exact h⟩

variable {S : Set0} (hS : StdC S)
include hS
section
variable {h : H} {r : Nat} {lv : V} {ws : List WD} {a : Nat}
theorem is_rd (R : Rdr h r lv ws a) (hw : ws.length < 2 ^ 40) (s : List Nat) (hs : 0 < s.length ∧ Bytes s) : callW S.cfg (fun k => k = r) 57 [.ptr r 0, .str s] h fun v h' => v = bo (isC ws a s) ∧ But r h h' ∧ Rdr h' r lv ws (a + if isC ws a s then 1 else 0) :=
  callW_mono (is_spec hS r a lv ws s h hs.1 hs.2 R.lt R.get R.wds R.ne hw) (fun _ q => q) fun v h' ⟨e, hb, hg⟩ => ⟨e, hb, R.step hb hg⟩
theorem over_rd (R : Rdr h r lv ws a) : Exact S.cfg 59 [.ptr r 0] h (bo (a = ws.length)) := by
  refine into Tryd.f59 _ Tryd.func59 (hS.ownC _ (by decide)) rfl rfl (by kernel_rfl) (by kernel_rfl) ?_
  have hg := R.get
  have a1 := R.wds.len
  simp +contextual (disch := first | (simp only [fr]; done) | omega | (simp only [Knx]; omega) | (apply Nat.le_antisymm <;> simp only [Knx] <;> omega) | exact dok (by kernel_rfl)) only [draw_calm, draw_calmA, wpy, fD, reduceLE, reduceLT, reduceLeDiff, UInt8.reduceToNat, ↓reduceIte, reduceEqDiff, reduceAdd, reduceCtorEq, reduceToNat, Tryd.f59, hg, a1]
theorem kind_rd (R : Rdr h r lv ws a) (hw : ws.length < 2 ^ 40) (k : Nat) (hk : 0 < k) : callW S.cfg (fun k => k = r) 99 [.ptr r 0, .int .i64 k] h fun v h' => v = .tuple [.str (if knd ws a = k then txt ws a else []), bo (knd ws a = k)] ∧ But r h h' ∧ Rdr h' r lv ws (a + if knd ws a = k then 1 else 0) := by
  refine into Tryd.f99 _ Tryd.func99 (hS.ownC _ (by decide)) rfl rfl (by kernel_rfl) (by kernel_rfl) ?_
  simp +contextual (disch := first | (simp only [fr]; done) | omega | (simp only [Knx]; omega) | (apply Nat.le_antisymm <;> simp only [Knx] <;> omega) | fail) only [wpy, fD, reduceLE, reduceLT, reduceLeDiff, UInt8.reduceToNat, ↓reduceIte, reduceEqDiff, reduceAdd, reduceCtorEq, reduceToNat, Tryd.f99]
  refine callF_pure (peek_spec hS r a lv ws h R.lt R.get R.wds) ?_
  rintro v h1 hx rfl
  have R1 := R.ext hx
  have hg1 := R1.get
  have hn : ¬ r = h1.nx := by have := R1.lt; omega
  have hb1 : But r h ((h1.push (Ob.cells [V.int IntKind.i64 0, V.str [], V.int IntKind.i64 0] 36 false)).put h1.nx (Ob.cells [V.int IntKind.i64 (wordAt ws a).kind, V.str (wordAt ws a).text, V.int IntKind.i64 (wordAt ws a).at_] 36 false)) := But.of_ext ((hx.push _).put hx.1 _)
  unfold knd txt
  by_cases hc : (wordAt ws a).kind = k
  · have hlt := kind_lt hc hk
    have hwr := wrap_succ (a := a) (by omega)
    rw [hc] at hb1
    simp +contextual (disch := first | (simp only [fr]; done) | omega | (simp only [Knx]; omega) | (apply Nat.le_antisymm <;> simp only [Knx] <;> omega) | exact dok (by kernel_rfl)) only [draw_calm, draw_calmA, wpy, fD, reduceLE, reduceLT, reduceLeDiff, UInt8.reduceToNat, ↓reduceIte, reduceEqDiff, reduceAdd, reduceCtorEq, reduceToNat, Tryd.f99, hn, hg1, WD.cells, hc, hwr]
    exact ⟨.inr (.inl hx.1), hb1.put _, R.step (hb1.put _) (put_eq rfl)⟩
  · simp +contextual (disch := first | (simp only [fr]; done) | omega | (simp only [Knx]; omega) | (apply Nat.le_antisymm <;> simp only [Knx] <;> omega) | exact dok (by kernel_rfl)) only [draw_calm, draw_calmA, wpy, fD, reduceLE, reduceLT, reduceLeDiff, UInt8.reduceToNat, ↓reduceIte, reduceEqDiff, reduceAdd, reduceCtorEq, reduceToNat, Tryd.f99, hn, hg1, WD.cells, hc]
    exact ⟨.inr (.inl hx.1), hb1, R.step hb1 (by rw [put_ne hn, push_ne hn]; exact hg1)⟩
theorem name_rd (R : Rdr h r lv ws a) (hw : ws.length < 2 ^ 40) : callW S.cfg (fun k => k = r) 58 [.ptr r 0] h fun v h' => v = .tuple [.str (if nameP ws a then txt ws a else []), bo (nameP ws a)] ∧ But r h h' ∧ Rdr h' r lv ws (a + if nameP ws a then 1 else 0) := by
  refine into Tryd.f58 _ Tryd.func58 (hS.ownC _ (by decide)) rfl rfl (by kernel_rfl) (by kernel_rfl) ?_
  simp +contextual (disch := first | (simp only [fr]; done) | omega | (simp only [Knx]; omega) | (apply Nat.le_antisymm <;> simp only [Knx] <;> omega) | fail) only [wpy, fD, reduceLE, reduceLT, reduceLeDiff, UInt8.reduceToNat, ↓reduceIte, reduceEqDiff, reduceAdd, reduceCtorEq, reduceToNat, Tryd.f58]
  refine callF_of (kind_rd hS R hw 1 (by decide)) (fun k q => by rw [fresh_def]; exact .inr q) ?_
  rintro v h1 ⟨rfl, hb1, R1⟩
  by_cases c1 : knd ws a = 1
  · have hn : nameP ws a := .inl c1
    rw [if_pos c1] at R1
    simp +contextual (disch := first | (simp only [fr]; done) | omega | (simp only [Knx]; omega) | (apply Nat.le_antisymm <;> simp only [Knx] <;> omega) | fail) only [wpy, fD, reduceLE, reduceLT, reduceLeDiff, UInt8.reduceToNat, ↓reduceIte, reduceEqDiff, reduceAdd, reduceCtorEq, reduceToNat, Tryd.f58, c1, hn]
    exact ⟨hb1, R1⟩
  · rw [if_neg c1] at R1
    simp +contextual (disch := first | (simp only [fr]; done) | omega | (simp only [Knx]; omega) | (apply Nat.le_antisymm <;> simp only [Knx] <;> omega) | fail) only [wpy, fD, reduceLE, reduceLT, reduceLeDiff, UInt8.reduceToNat, ↓reduceIte, reduceEqDiff, reduceAdd, reduceCtorEq, reduceToNat, Tryd.f58, c1]
    refine callF_of (kind_rd hS R1 hw 2 (by decide)) (fun k q => by rw [fresh_def]; exact .inr q) ?_
    rintro v h2 ⟨rfl, hb2, R2⟩
    by_cases c2 : knd ws a = 2
    · have hn : nameP ws a := .inr c2
      have c2' : knd ws (a + 0) = 2 := c2
      rw [if_pos c2'] at R2
      simp +contextual (disch := first | (simp only [fr]; done) | omega | (simp only [Knx]; omega) | (apply Nat.le_antisymm <;> simp only [Knx] <;> omega) | fail) only [wpy, fD, reduceLE, reduceLT, reduceLeDiff, UInt8.reduceToNat, ↓reduceIte, reduceEqDiff, reduceAdd, reduceCtorEq, reduceToNat, Tryd.f58, c1, c2, hn]
      exact ⟨hb1.trans hb2, R2⟩
    · have hn : ¬ nameP ws a := fun q => q.elim c1 c2
      have c2' : ¬ knd ws (a + 0) = 2 := c2
      rw [if_neg c2'] at R2
      simp +contextual (disch := first | (simp only [fr]; done) | omega | (simp only [Knx]; omega) | (apply Nat.le_antisymm <;> simp only [Knx] <;> omega) | fail) only [wpy, fD, reduceLE, reduceLT, reduceLeDiff, UInt8.reduceToNat, ↓reduceIte, reduceEqDiff, reduceAdd, reduceCtorEq, reduceToNat, Tryd.f58, c1, c2, hn]
      exact ⟨hb1.trans hb2, R2⟩
theorem table_rd (R : Rdr h r lv ws a) (hw : ws.length < 2 ^ 40) (ht : ∀ i, (txt ws i).length < 2 ^ 40) : callW S.cfg (fun k => k = r) 101 [.ptr r 0] h fun v h' => v = .tuple [.str ((tableF ws a).getD ([], a)).1, bo ((tableF ws a).isSome = true)] ∧ But r h h' ∧ Rdr h' r lv ws ((tableF ws a).getD ([], a)).2 := by
  refine into Tryd.f101 _ Tryd.func101 (hS.ownC _ (by decide)) rfl rfl (by kernel_rfl) (by kernel_rfl) ?_
  simp +contextual (disch := first | (simp only [fr]; done) | omega | (simp only [Knx]; omega) | (apply Nat.le_antisymm <;> simp only [Knx] <;> omega) | fail) only [wpy, fD, reduceLE, reduceLT, reduceLeDiff, UInt8.reduceToNat, ↓reduceIte, reduceEqDiff, reduceAdd, reduceCtorEq, reduceToNat, Tryd.f101]
  refine callF_of (name_rd hS R hw) (fun k q => by rw [fresh_def]; exact .inr q) ?_
  rintro v h1 ⟨rfl, hb1, R1⟩
  by_cases c1 : nameP ws a
  · rw [if_pos c1] at R1
    have hg1 := R1.get
    simp +contextual (disch := first | (simp only [fr]; done) | omega | (simp only [Knx]; omega) | (apply Nat.le_antisymm <;> simp only [Knx] <;> omega) | fail) only [wpy, fD, reduceLE, reduceLT, reduceLeDiff, UInt8.reduceToNat, ↓reduceIte, reduceEqDiff, reduceAdd, reduceCtorEq, reduceToNat, Tryd.f101, c1, hg1]
    refine callF_of (is_rd hS R1 hw [46] (by1 46 (by decide))) (fun k q => by rw [fresh_def]; exact .inr q) ?_
    rintro v h2 ⟨rfl, hb2, R2⟩
    by_cases c2 : isC ws (a + 1) [46]
    · rw [if_pos c2] at R2
      simp +contextual (disch := first | (simp only [fr]; done) | omega | (simp only [Knx]; omega) | (apply Nat.le_antisymm <;> simp only [Knx] <;> omega) | fail) only [wpy, fD, reduceLE, reduceLT, reduceLeDiff, UInt8.reduceToNat, ↓reduceIte, reduceEqDiff, reduceAdd, reduceCtorEq, reduceToNat, Tryd.f101, c1, c2]
      refine callF_of (name_rd hS R2 hw) (fun k q => by rw [fresh_def]; exact .inr q) ?_
      rintro v h3 ⟨rfl, hb3, R3⟩
      by_cases c3 : nameP ws (a + 2)
      · have c3' : nameP ws (a + 1 + 1) := c3
        rw [if_pos c3'] at R3
        have e : tableF ws a = some (txt ws a ++ [46] ++ txt ws (a + 2), a + 3) := by unfold tableF; rw [if_pos c1, if_pos ⟨c2, c3⟩]
        rw [e]
        have l1 := ht a
        have l2 := ht (a + 1 + 1)
        have l3 : (txt ws a).length ≤ 9223372036854775806 := by omega
        have l4 : (txt ws a).length + 1 + (txt ws (a + 1 + 1)).length ≤ 9223372036854775807 := by omega
        simp +contextual (disch := first | (simp only [fr]; done) | omega | (simp only [Knx]; omega) | (apply Nat.le_antisymm <;> simp only [Knx] <;> omega) | fail) only [wpy, fD, reduceLE, reduceLT, reduceLeDiff, UInt8.reduceToNat, ↓reduceIte, reduceEqDiff, reduceAdd, reduceCtorEq, reduceToNat, Tryd.f101, c1, c2, c3, c3', l3, l4]
        exact ⟨tb_y, (hb1.trans hb2).trans hb3, R3⟩
      · have c3' : ¬ nameP ws (a + 1 + 1) := c3
        rw [if_neg c3'] at R3
        have hg3 := R3.get
        have e : tableF ws a = some (txt ws a, a + 1) := by unfold tableF; rw [if_pos c1, if_neg fun q => c3 q.2]
        rw [e]
        simp +contextual (disch := first | (simp only [fr]; done) | omega | (simp only [Knx]; omega) | (apply Nat.le_antisymm <;> simp only [Knx] <;> omega) | fail) only [wpy, fD, reduceLE, reduceLT, reduceLeDiff, UInt8.reduceToNat, ↓reduceIte, reduceEqDiff, reduceAdd, reduceCtorEq, reduceToNat, Tryd.f101, c1, c2, c3, c3', hg3]
        exact ⟨tb_y, ((hb1.trans hb2).trans hb3).put _, R3.step ((But.refl _ _).put _) (put_eq rfl)⟩
    · rw [if_neg c2] at R2
      have e : tableF ws a = some (txt ws a, a + 1) := by unfold tableF; rw [if_pos c1, if_neg fun q => c2 q.1]
      rw [e]
      simp +contextual (disch := first | (simp only [fr]; done) | omega | (simp only [Knx]; omega) | (apply Nat.le_antisymm <;> simp only [Knx] <;> omega) | fail) only [wpy, fD, reduceLE, reduceLT, reduceLeDiff, UInt8.reduceToNat, ↓reduceIte, reduceEqDiff, reduceAdd, reduceCtorEq, reduceToNat, Tryd.f101, c1, c2]
      exact ⟨tb_y, hb1.trans hb2, R2⟩
  · rw [if_neg c1] at R1
    have e : tableF ws a = none := by unfold tableF; rw [if_neg c1]
    rw [e]
    simp +contextual (disch := first | (simp only [fr]; done) | omega | (simp only [Knx]; omega) | (apply Nat.le_antisymm <;> simp only [Knx] <;> omega) | fail) only [wpy, fD, reduceLE, reduceLT, reduceLeDiff, UInt8.reduceToNat, ↓reduceIte, reduceEqDiff, reduceAdd, reduceCtorEq, reduceToNat, Tryd.f101, c1]
    exact ⟨tb_n, hb1, R1⟩
theorem literal_rd (R : Rdr h r lv ws a) (hw : ws.length < 2 ^ 40) (ht : ∀ i, (txt ws i).length < 2 ^ 40) : callW S.cfg (fun k => k = r) 105 [.ptr r 0] h fun v h' => v = .tuple [.str ((litF ws a).getD ([], a)).1, bo ((litF ws a).isSome = true)] ∧ But r h h' ∧ Rdr h' r lv ws ((litF ws a).getD ([], a)).2 := by
  refine into Tryd.f105 _ Tryd.func105 (hS.ownC _ (by decide)) rfl rfl (by kernel_rfl) (by kernel_rfl) ?_
  have hg := R.get
  simp +contextual (disch := first | (simp only [fr]; done) | omega | (simp only [Knx]; omega) | (apply Nat.le_antisymm <;> simp only [Knx] <;> omega) | fail) only [wpy, fD, reduceLE, reduceLT, reduceLeDiff, UInt8.reduceToNat, ↓reduceIte, reduceEqDiff, reduceAdd, reduceCtorEq, reduceToNat, Tryd.f105, hg]
  refine callF_pure (peek_spec hS r a lv ws h R.lt R.get R.wds) ?_
  rintro v h1 hx rfl
  have R1 := R.ext hx
  have hg1 := R1.get
  have hn : ¬ r = h1.nx := by have := R1.lt; omega
  have hb1 : But r h ((h1.push (Ob.cells [V.int IntKind.i64 0, V.str [], V.int IntKind.i64 0] 36 false)).put h1.nx (Ob.cells [V.int IntKind.i64 (knd ws a), V.str (txt ws a), V.int IntKind.i64 (wordAt ws a).at_] 36 false)) := But.of_ext ((hx.push _).put hx.1 _)
  have hW : (wordAt ws a).cells = [V.int IntKind.i64 (knd ws a), V.str (txt ws a), V.int IntKind.i64 (wordAt ws a).at_] := rfl
  by_cases cs : signP ws a
  · have hlt := kind_lt cs.1 (by decide)
    have hwr := wrap_succ (a := a) (by omega)
    have cs1 := cs.1
    have cs2 := cs.2
    have hne : ¬ txt ws a = [] := by rcases cs2 with q | q <;> (rw [q]; exact List.cons_ne_nil _ _)
    rw [cs1] at hb1
    simp +contextual (disch := first | (simp only [fr]; done) | omega | (simp only [Knx]; omega) | (apply Nat.le_antisymm <;> simp only [Knx] <;> omega) | exact dok (by kernel_rfl)) only [draw_calm, draw_calmA, wpy, fD, reduceLE, reduceLT, reduceLeDiff, UInt8.reduceToNat, ↓reduceIte, reduceEqDiff, reduceAdd, reduceCtorEq, reduceToNat, Tryd.f105, hn, hg1, hW, cs1, cs2, hwr]
    refine ⟨.inr (.inl hx.1), ?_⟩
    have R2 := R.step (hb1.put (Ob.cells [lv, V.int IntKind.i64 ↑(a + 1)] 115 false)) (put_eq rfl)
    refine callF_of (kind_rd hS R2 hw 4 (by decide)) (fun k q => by rw [fresh_def]; exact .inr q) ?_
    rintro v h3 ⟨rfl, hb3, R3⟩
    have hB := (hb1.put _).trans hb3
    by_cases c4 : knd ws (a + 1) = 4
    · rw [if_pos c4] at R3
      have e : litF ws a = some (txt ws a ++ txt ws (a + 1), a + 2) := by unfold litF; rw [if_pos cs, if_pos c4]
      rw [e]
      have l1 := ht a
      have l2 := ht (a + 1)
      have l4 : (txt ws a).length + (txt ws (a + 1)).length ≤ 9223372036854775807 := by omega
      simp +contextual (disch := first | (simp only [fr]; done) | omega | (simp only [Knx]; omega) | (apply Nat.le_antisymm <;> simp only [Knx] <;> omega) | fail) only [wpy, fD, reduceLE, reduceLT, reduceLeDiff, UInt8.reduceToNat, ↓reduceIte, reduceEqDiff, reduceAdd, reduceCtorEq, reduceToNat, Tryd.f105, c4, l4]
      exact ⟨tb_y, hB, R3⟩
    · rw [if_neg c4] at R3
      have hg3 := R3.get
      have e : litF ws a = none := by unfold litF; rw [if_pos cs, if_neg c4]
      rw [e]
      simp +contextual (disch := first | (simp only [fr]; done) | omega | (simp only [Knx]; omega) | (apply Nat.le_antisymm <;> simp only [Knx] <;> omega) | fail) only [wpy, fD, reduceLE, reduceLT, reduceLeDiff, UInt8.reduceToNat, ↓reduceIte, reduceEqDiff, reduceAdd, reduceCtorEq, reduceToNat, Tryd.f105, c4, hne, hg3]
      exact ⟨tb_n, hB.put _, R3.step ((But.refl _ _).put _) (put_eq rfl)⟩
  · have cs1 : ¬ (knd ws a = 5 ∧ (txt ws a = [43] ∨ txt ws a = [45])) := cs
    simp +contextual (disch := first | (simp only [fr]; done) | omega | (simp only [Knx]; omega) | (apply Nat.le_antisymm <;> simp only [Knx] <;> omega) | exact dok (by kernel_rfl)) only [draw_calm, draw_calmA, wpy, fD, reduceLE, reduceLT, reduceLeDiff, UInt8.reduceToNat, ↓reduceIte, reduceEqDiff, reduceAdd, reduceCtorEq, reduceToNat, Tryd.f105, hn, hg1, hW, cs1]
    refine ⟨.inr (.inl hx.1), ?_⟩
    have R2 := R.step hb1 (by rw [put_ne hn, push_ne hn]; exact hg1)
    refine callF_of (kind_rd hS R2 hw 4 (by decide)) (fun k q => by rw [fresh_def]; exact .inr q) ?_
    rintro v h3 ⟨rfl, hb3, R3⟩
    have hB := hb1.trans hb3
    by_cases c4 : knd ws a = 4
    · rw [if_pos c4] at R3
      have e : litF ws a = some (txt ws a, a + 1) := by unfold litF; rw [if_neg cs, if_pos (.inl c4)]
      rw [e]
      have l1 := ht a
      have l4 : (txt ws a).length ≤ 9223372036854775807 := by omega
      simp +contextual (disch := first | (simp only [fr]; done) | omega | (simp only [Knx]; omega) | (apply Nat.le_antisymm <;> simp only [Knx] <;> omega) | fail) only [wpy, fD, reduceLE, reduceLT, reduceLeDiff, UInt8.reduceToNat, ↓reduceIte, reduceEqDiff, reduceAdd, reduceCtorEq, reduceToNat, Tryd.f105, c4, l4, List.nil_append, List.length_nil, Nat.zero_add]
      exact ⟨tb_y, hB, R3⟩
    · rw [if_neg c4] at R3
      simp +contextual (disch := first | (simp only [fr]; done) | omega | (simp only [Knx]; omega) | (apply Nat.le_antisymm <;> simp only [Knx] <;> omega) | fail) only [wpy, fD, reduceLE, reduceLT, reduceLeDiff, UInt8.reduceToNat, ↓reduceIte, reduceEqDiff, reduceAdd, reduceCtorEq, reduceToNat, Tryd.f105, c4]
      refine callF_of (kind_rd hS R3 hw 3 (by decide)) (fun k q => by rw [fresh_def]; exact .inr q) ?_
      rintro v h4 ⟨rfl, hb4, R4⟩
      by_cases c3 : knd ws a = 3
      · have c3' : knd ws (a + 0) = 3 := c3
        rw [if_pos c3'] at R4
        have e : litF ws a = some (txt ws a, a + 1) := by unfold litF; rw [if_neg cs, if_pos (.inr (.inl c3))]
        rw [e]
        simp +contextual (disch := first | (simp only [fr]; done) | omega | (simp only [Knx]; omega) | (apply Nat.le_antisymm <;> simp only [Knx] <;> omega) | fail) only [wpy, fD, reduceLE, reduceLT, reduceLeDiff, UInt8.reduceToNat, ↓reduceIte, reduceEqDiff, reduceAdd, reduceCtorEq, reduceToNat, Tryd.f105, c4, c3]
        exact ⟨tb_y, hB.trans hb4, R4⟩
      · have c3' : ¬ knd ws (a + 0) = 3 := c3
        rw [if_neg c3'] at R4
        simp +contextual (disch := first | (simp only [fr]; done) | omega | (simp only [Knx]; omega) | (apply Nat.le_antisymm <;> simp only [Knx] <;> omega) | fail) only [wpy, fD, reduceLE, reduceLT, reduceLeDiff, UInt8.reduceToNat, ↓reduceIte, reduceEqDiff, reduceAdd, reduceCtorEq, reduceToNat, Tryd.f105, c4, c3]
        refine callF_of (name_rd hS R4 hw) (fun k q => by rw [fresh_def]; exact .inr q) ?_
        rintro v h5 ⟨rfl, hb5, R5⟩
        by_cases cn : nameP ws a
        · have cn' : nameP ws (a + 0 + 0) := cn
          rw [if_pos cn'] at R5
          have e : litF ws a = some (txt ws a, a + 1) := by unfold litF; rw [if_neg cs, if_pos (.inr (.inr cn))]
          rw [e]
          simp +contextual (disch := first | (simp only [fr]; done) | omega | (simp only [Knx]; omega) | (apply Nat.le_antisymm <;> simp only [Knx] <;> omega) | fail) only [wpy, fD, reduceLE, reduceLT, reduceLeDiff, UInt8.reduceToNat, ↓reduceIte, reduceEqDiff, reduceAdd, reduceCtorEq, reduceToNat, Tryd.f105, c4, c3, cn]
          exact ⟨tb_y, (hB.trans hb4).trans hb5, R5⟩
        · have cn' : ¬ nameP ws (a + 0 + 0) := cn
          rw [if_neg cn'] at R5
          have hg5 := R5.get
          have e : litF ws a = none := by unfold litF; rw [if_neg cs, if_neg fun q => q.elim c4 fun q => q.elim c3 cn]
          rw [e]
          simp +contextual (disch := first | (simp only [fr]; done) | omega | (simp only [Knx]; omega) | (apply Nat.le_antisymm <;> simp only [Knx] <;> omega) | fail) only [wpy, fD, reduceLE, reduceLT, reduceLeDiff, UInt8.reduceToNat, ↓reduceIte, reduceEqDiff, reduceAdd, reduceCtorEq, reduceToNat, Tryd.f105, c4, c3, cn, hg5]
          exact ⟨tb_n, ((hB.trans hb4).trans hb5).put _, R5.step ((But.refl _ _).put _) (put_eq rfl)⟩
theorem assigned_rd (R : Rdr h r lv ws a) (hw : ws.length < 2 ^ 40) (ht : ∀ i, (txt ws i).length < 2 ^ 40) : callW S.cfg (fun k => k = r) 102 [.ptr r 0] h fun v h' => (∃ x, v = .tuple [.str x, bo ((assF ws a).isSome = true)] ∧ ∀ t, assF ws a = some t → x = t) ∧ But r h h' := by
  refine into Tryd.f102 _ Tryd.func102 (hS.ownC _ (by decide)) rfl rfl (by kernel_rfl) (by kernel_rfl) ?_
  simp +contextual (disch := first | (simp only [fr]; done) | omega | (simp only [Knx]; omega) | (apply Nat.le_antisymm <;> simp only [Knx] <;> omega) | fail) only [wpy, fD, reduceLE, reduceLT, reduceLeDiff, UInt8.reduceToNat, ↓reduceIte, reduceEqDiff, reduceAdd, reduceCtorEq, reduceToNat, Tryd.f102]
  refine callF_of (is_rd hS R hw [61] (by1 61 (by decide))) (fun k q => by rw [fresh_def]; exact .inr q) ?_
  rintro v h1 ⟨rfl, hb1, R1⟩
  by_cases c1 : isC ws a [61]
  · rw [if_pos c1] at R1
    simp +contextual (disch := first | (simp only [fr]; done) | omega | (simp only [Knx]; omega) | (apply Nat.le_antisymm <;> simp only [Knx] <;> omega) | fail) only [wpy, fD, reduceLE, reduceLT, reduceLeDiff, UInt8.reduceToNat, ↓reduceIte, reduceEqDiff, reduceAdd, reduceCtorEq, reduceToNat, Tryd.f102, c1]
    refine callF_of (literal_rd hS R1 hw ht) (fun k q => by rw [fresh_def]; exact .inr q) ?_
    rintro v h2 ⟨rfl, hb2, R2⟩
    cases hl : litF ws (a + 1) with
    | none =>
      rw [hl] at R2
      have e : assF ws a = none := by unfold assF; rw [if_pos c1, hl]
      rw [e]
      simp +contextual (disch := first | (simp only [fr]; done) | omega | (simp only [Knx]; omega) | (apply Nat.le_antisymm <;> simp only [Knx] <;> omega) | fail) only [wpy, fD, reduceLE, reduceLT, reduceLeDiff, UInt8.reduceToNat, ↓reduceIte, reduceEqDiff, reduceAdd, reduceCtorEq, reduceToNat, Tryd.f102, c1, hl, Option.getD_none, Option.isSome_none, Bool.false_eq_true]
      exact ⟨⟨[], rfl⟩, hb1.trans hb2⟩
    | some p =>
      obtain ⟨t, b⟩ := p
      rw [hl] at R2
      have hov := over_rd hS R2
      simp +contextual (disch := first | (simp only [fr]; done) | omega | (simp only [Knx]; omega) | (apply Nat.le_antisymm <;> simp only [Knx] <;> omega) | fail) only [wpy, fD, reduceLE, reduceLT, reduceLeDiff, UInt8.reduceToNat, ↓reduceIte, reduceEqDiff, reduceAdd, reduceCtorEq, reduceToNat, Tryd.f102, c1, hl, Option.getD_some, Option.isSome_some]
      refine callF_exact hov ?_
      by_cases cb : b = ws.length
      · have e : assF ws a = some t := by unfold assF; rw [if_pos c1, hl]; exact if_pos cb
        rw [e]
        simp +contextual (disch := first | (simp only [fr]; done) | omega | (simp only [Knx]; omega) | (apply Nat.le_antisymm <;> simp only [Knx] <;> omega) | fail) only [wpy, fD, reduceLE, reduceLT, reduceLeDiff, UInt8.reduceToNat, ↓reduceIte, reduceEqDiff, reduceAdd, reduceCtorEq, reduceToNat, Tryd.f102, cb, Option.getD_some, Option.isSome_some]
        exact ⟨⟨t, rfl, fun _ q => by cases q; rfl⟩, hb1.trans hb2⟩
      · have e : assF ws a = none := by unfold assF; rw [if_pos c1, hl]; exact if_neg cb
        rw [e]
        simp +contextual (disch := first | (simp only [fr]; done) | omega | (simp only [Knx]; omega) | (apply Nat.le_antisymm <;> simp only [Knx] <;> omega) | fail) only [wpy, fD, reduceLE, reduceLT, reduceLeDiff, UInt8.reduceToNat, ↓reduceIte, reduceEqDiff, reduceAdd, reduceCtorEq, reduceToNat, Tryd.f102, cb, Option.getD_some, Option.isSome_some, Option.isSome_none, Bool.false_eq_true]
        exact ⟨⟨t, rfl⟩, hb1.trans hb2⟩
  · have e : assF ws a = none := by unfold assF; rw [if_neg c1]
    rw [e]
    simp +contextual (disch := first | (simp only [fr]; done) | omega | (simp only [Knx]; omega) | (apply Nat.le_antisymm <;> simp only [Knx] <;> omega) | fail) only [wpy, fD, reduceLE, reduceLT, reduceLeDiff, UInt8.reduceToNat, ↓reduceIte, reduceEqDiff, reduceAdd, reduceCtorEq, reduceToNat, Tryd.f102, c1]
    exact ⟨⟨[], by simp⟩, hb1⟩
end
end
end Go.Proofs.YtkibhdbmamfjcaaDoor
set_option linter.unusedSimpArgs false
set_option linter.unusedVariables false
set_option linter.defProp false
set_option maxRecDepth 10000
namespace Go.Proofs.YtkibhdbmamfjcaaDoor
open Int (reduceLE reduceLT reduceToNat)
open Nat (reduceLeDiff reduceEqDiff reduceAdd)
open Go.Proofs Go.Lx Go.Wx Go.IntWalk
noncomputable section

def lockL : List (List Nat) := [[103, 101, 116, 95, 108, 111, 99, 107], [105, 115, 95, 117, 115, 101, 100, 95, 108, 111, 99, 107], [105, 115, 95, 102, 114, 101, 101, 95, 108, 111, 99, 107], [114, 101, 108, 101, 97, 115, 101, 95, 108, 111, 99, 107], [114, 101, 108, 101, 97, 115, 101, 95, 97, 108, 108, 95, 108, 111, 99, 107, 115]]
def lockT : List Nat := [103, 101, 116, 95, 108, 111, 99, 107, 32, 105, 115, 95, 117, 115, 101, 100, 95, 108, 111, 99, 107, 32, 105, 115, 95, 102, 114, 101, 101, 95, 108, 111, 99, 107, 32, 114, 101, 108, 101, 97, 115, 101, 95, 108, 111, 99, 107, 32, 114, 101, 108, 101, 97, 115, 101, 95, 97, 108, 108, 95, 108, 111, 99, 107, 115]
def varL : List (List Nat) := [[97, 117, 116, 111, 99, 111, 109, 109, 105, 116], [116, 114, 97, 110, 115, 97, 99, 116, 105, 111, 110], [112, 97, 115, 115, 119, 111, 114, 100], [114, 111, 108, 101]]
def varT : List Nat := [97, 117, 116, 111, 99, 111, 109, 109, 105, 116, 32, 116, 114, 97, 110, 115, 97, 99, 116, 105, 111, 110, 32, 112, 97, 115, 115, 119, 111, 114, 100, 32, 114, 111, 108, 101]
def sqlT : List Nat := [115, 113, 108, 95, 108, 111, 103]
structure CL where
  kind : Nat
  name : List Nat
  value : List Nat
def CL.v (c : CL) : V := .agg [.int .i64 c.kind, .str c.name, .str c.value]
def CL.none : CL := ⟨0, [], []⟩
def ansV (o : Option CL) : V := .tuple [(o.getD CL.none).v, bo (o.isSome = true)]
def lockedP (ws : List WD) : Prop := ∃ i, i < ws.length ∧ knd ws i = 1 ∧ txt ws i ∈ lockL
noncomputable instance (ws : List WD) : Decidable (lockedP ws) := Classical.propDecidable _
noncomputable instance (ws : List WD) : Decidable (oddsP ws) := Classical.propDecidable _
noncomputable instance (s p : List Nat) : Decidable (hasP s p) := Classical.propDecidable _
def setF (n v : List Nat) : CL := if lowS n ∈ varL ∨ hasP (lowS n) sqlT then ⟨13, [], []⟩ else ⟨5, lowS n, v⟩
def trimS (s p : List Nat) : List Nat := if hasP s p then s.drop p.length else s
structure StdE (S : Set0) : Prop extends StdC S where
  lockF : ∀ h : H, callW S.cfg nil1 62 [.str lockT] h fun v h' => v = .slice h.nx 0 5 5 ∧ h' = h.push (.cells (lockL.map V.str) 9 false)
  varF : ∀ h : H, callW S.cfg nil1 62 [.str varT] h fun v h' => v = .slice h.nx 0 4 4 ∧ h' = h.push (.cells (varL.map V.str) 9 false)

section
variable {S : Set0} (hS : StdC S)
include hS
theorem setG_spec (T : List Nat) (L : List (List Nat)) (n : Nat) (hL : L.length = n) (hn : n < 2 ^ 20) (hnd : ∀ j (hj : j < L.length), L[j] ∉ L.take j) (hf : ∀ h : H, callW S.cfg nil1 62 [.str T] h fun v h' => v = .slice h.nx 0 n n ∧ h' = h.push (.cells (L.map V.str) 9 false)) (h : H) : Pure S.cfg 94 [.str T] h fun v h' => ∃ m n, v = .map m ∧ h.nx ≤ m ∧ m < h'.nx ∧ h'.get m = some (.map (setE 0 L) n) := by
  refine into Tryd.f94 _ Tryd.func94 (hS.ownC _ (by decide)) rfl rfl (by kernel_rfl) (by kernel_rfl) ?_
  simp +contextual (disch := first | (simp only [fr]; done) | omega | (simp only [Knx]; omega) | (apply Nat.le_antisymm <;> simp only [Knx] <;> omega) | fail) only [wpy, fD, reduceLE, reduceLT, reduceLeDiff, UInt8.reduceToNat, ↓reduceIte, reduceEqDiff, reduceAdd, reduceCtorEq, reduceToNat, Tryd.f94]
  rw [opW_makeMap0]
  simp +contextual (disch := first | (simp only [fr]; done) | omega | (simp only [Knx]; omega) | (apply Nat.le_antisymm <;> simp only [Knx] <;> omega) | fail) only [wpy, fD, reduceLE, reduceLT, reduceLeDiff, UInt8.reduceToNat, ↓reduceIte, reduceEqDiff, reduceAdd, reduceCtorEq, reduceToNat, Tryd.f94]
  have hfa := hf (h.push (.map [] 0))
  refine ⟨nil1, fun _ q => q.elim, callW_mono hfa (fun _ q => q) ?_⟩
  rintro v h' ⟨rfl, rfl⟩
  simp +contextual (disch := first | (simp only [fr]; done) | omega | (simp only [Knx]; omega) | (apply Nat.le_antisymm <;> simp only [Knx] <;> omega) | fail) only [wpy, fD, reduceLE, reduceLT, reduceLeDiff, UInt8.reduceToNat, ↓reduceIte, reduceEqDiff, reduceAdd, reduceCtorEq, reduceToNat, Tryd.f94]
  refine run_loop (fun k env h' => ∃ i : Nat, k = n - i ∧ i ≤ n ∧ env 3 = .map h.nx ∧ env 8 = .slice (h.nx + 1) 0 n n ∧ env 9 = .int .i64 n ∧ env 10 = .int .i64 i ∧ h.nx + 2 ≤ h'.nx ∧ Ext h h' ∧ h'.get h.nx = some (.map (setE 0 (L.take i)) i) ∧ h'.get (h.nx + 1) = some (.cells (L.map V.str) 9 false)) n ⟨0, ?_⟩ ?_
  · simp +contextual (disch := first | (simp only [fr]; done) | omega | (simp only [Knx]; omega) | (apply Nat.le_antisymm <;> simp only [Knx] <;> omega) | fail) only [wpy, fD, reduceLE, reduceLT, reduceLeDiff, UInt8.reduceToNat, ↓reduceIte, reduceEqDiff, reduceAdd, reduceCtorEq, reduceToNat]
    exact ⟨(Nat.sub_zero _).symm, ((Ext.refl h).push _).push _, rfl⟩
  rintro k env h' ⟨i, rfl, hi, e3, e8, e9, e10, hn, hx, hg, hgl⟩
  by_cases hi2 : i < n
  · have hil : i < L.length := by omega
    have hgi : (L.map V.str)[i]? = some (.str L[i]) := by rw [List.getElem?_map, List.getElem?_eq_getElem hil]; rfl
    have hni : L[i] ∉ L.take i := hnd i hil
    simp +contextual (disch := first | (simp only [fr]; done) | omega | (simp only [Knx]; omega) | (apply Nat.le_antisymm <;> simp only [Knx] <;> omega) | fail) only [wpy, fD, reduceLE, reduceLT, reduceLeDiff, UInt8.reduceToNat, ↓reduceIte, reduceEqDiff, reduceAdd, reduceCtorEq, reduceToNat, Tryd.f94, e3, e8, e9, e10, hg, hgl, hi2, hgi]
    refine update_new (d := .string) (z := .agg []) (kv := .str L[i]) (xv := .agg []) (es := setE 0 (L.take i)) (clock := i) (r := h.nx) ?_ ?_ ?_ (by kernel_rfl) rfl hg ((findV_set _ _ 0 0).2 hni) ?_ ?_
    · simp +contextual (disch := first | (simp only [fr]; done) | omega | (simp only [Knx]; omega) | (apply Nat.le_antisymm <;> simp only [Knx] <;> omega) | fail) only [wpy, fD, reduceLE, reduceLT, reduceLeDiff, UInt8.reduceToNat, ↓reduceIte, reduceEqDiff, reduceAdd, reduceCtorEq, reduceToNat]
    · simp +contextual (disch := first | (simp only [fr]; done) | omega | (simp only [Knx]; omega) | (apply Nat.le_antisymm <;> simp only [Knx] <;> omega) | fail) only [wpy, fD, reduceLE, reduceLT, reduceLeDiff, UInt8.reduceToNat, ↓reduceIte, reduceEqDiff, reduceAdd, reduceCtorEq, reduceToNat]
    · simp +contextual (disch := first | (simp only [fr]; done) | omega | (simp only [Knx]; omega) | (apply Nat.le_antisymm <;> simp only [Knx] <;> omega) | fail) only [wpy, fD, reduceLE, reduceLT, reduceLeDiff, UInt8.reduceToNat, ↓reduceIte, reduceEqDiff, reduceAdd, reduceCtorEq, reduceToNat]
    · exact .inr (by rw [fresh_def]; exact .inl (Nat.le_refl _))
    simp +contextual (disch := first | (simp only [fr]; done) | omega | (simp only [Knx]; omega) | (apply Nat.le_antisymm <;> simp only [Knx] <;> omega) | fail) only [wpy, fD, reduceLE, reduceLT, reduceLeDiff, UInt8.reduceToNat, ↓reduceIte, reduceEqDiff, reduceAdd, reduceCtorEq, reduceToNat, Tryd.f94, e3, e8, e9, e10, hg, hgl, hi2, hgi]
    refine ⟨_, ?_, i + 1, rfl, by omega, rfl, hn, hx.put (Nat.le_refl _) _, ?_⟩
    · omega
    rw [List.take_succ_eq_append_getElem hil, setE_snoc, List.length_take, Nat.zero_add, Nat.min_eq_left (by omega)]
  · simp +contextual (disch := first | (simp only [fr]; done) | omega | (simp only [Knx]; omega) | (apply Nat.le_antisymm <;> simp only [Knx] <;> omega) | fail) only [wpy, fD, reduceLE, reduceLT, reduceLeDiff, UInt8.reduceToNat, ↓reduceIte, reduceEqDiff, reduceAdd, reduceCtorEq, reduceToNat, Tryd.f94, e3, e8, e9, e10, hg, hgl, hi2]
    refine ⟨hx, h.nx, n, rfl, Nat.le_refl _, by omega, ?_⟩
    have : i = n := by omega
    subst this
    rw [List.take_of_length_le (by omega)] at hg
    exact hg
theorem lower_spec (s : List Nat) (h : H) (hs : s.length < 2 ^ 61) (hb : Bytes s) : Pure S.cfg 133 [.str s] h fun v _ => v = .str (lowS s) := by
  refine into Tryd.f133 _ Tryd.func133 (hS.ownC _ (by decide)) rfl rfl (by kernel_rfl) (by kernel_rfl) ?_
  simp +contextual (disch := first | (simp only [fr]; done) | omega) only [wps, fD, reduceLE, reduceLT, reduceLeDiff, UInt8.reduceToNat, ↓reduceIte, reduceEqDiff, reduceAdd, reduceCtorEq, reduceToNat, Tryd.f133]
  refine run_loop (fun m env h' => ∃ i : Nat, m = s.length - i ∧ env 3 = .slice h.nx 0 s.length s.length ∧ env 8 = .slice h.nx 0 s.length s.length ∧ env 9 = .int .i64 s.length ∧ env 10 = .int .i64 i ∧ i ≤ s.length ∧ Ext h h' ∧ h.nx < h'.nx ∧ h'.get h.nx = some (.cells (bytesV (partS s i)) 5 true)) s.length ⟨0, by simp +contextual (disch := first | (simp only [fr]; done) | omega) only [wps, fD, reduceLE, reduceLT, reduceLeDiff, UInt8.reduceToNat, ↓reduceIte, reduceEqDiff, reduceAdd, reduceCtorEq, reduceToNat]; exact ⟨rfl, (Ext.refl h).push _, by omega, by simp [partS, lowS]⟩⟩ ?_
  rintro m env h' ⟨i, rfl, h3, h8, h9, h10, hi, hx, hn, hg⟩
  by_cases hlt : i < s.length
  · have hel : (partS s i)[i]? = some (s.getD i 0) := by
      unfold partS
      rw [List.getElem?_append_right (by simp [lowS]; omega)]
      simp [lowS, Nat.min_eq_left hi, List.getD_eq_getElem?_getD, List.getElem?_eq_getElem hlt]
    simp +contextual (disch := first | (simp only [fr]; done) | omega) only [wps, fD, reduceLE, reduceLT, reduceLeDiff, UInt8.reduceToNat, ↓reduceIte, reduceEqDiff, reduceAdd, reduceCtorEq, reduceToNat, h3, h8, h9, h10, hg, hel, hlt, Tryd.f133]
    refine ⟨fun hr => ⟨by rw [partS_len s i hi]; omega, _, by omega, i + 1, rfl, rfl, by omega, hx.put (Nat.le_refl _) _, hn, ?_⟩, fun hr => ⟨_, by omega, i + 1, rfl, rfl, by omega, hx, hn, by rw [partS_same s i hlt hr]⟩⟩
    have hw : IntKind.u8.wrap (IntKind.u8.wrap ((s.getD i 0 : Nat) + 97) - 65) = ((lowB (s.getD i 0) : Nat) : Int) := by
      rw [u8_in ((s.getD i 0 : Nat) + 97) (by omega), u8_in _ (by omega)]
      unfold lowB
      rw [if_pos hr]
      omega
    rw [hw, partS_put s i hlt]
  · have e : i = s.length := by omega
    subst e
    have hp : partS s s.length = lowS s := by simp [partS]
    rw [hp] at hg
    have hr : rdN (some (.cells (bytesV (lowS s)) 5 true)) 0 s.length = some (lowS s) := by
      have := rdN_bytes (e := 5) (p := true) (lowS_bytes hb)
      rwa [show (lowS s).length = s.length by simp [lowS]] at this
    simp +contextual (disch := first | (simp only [fr]; done) | omega) only [wps, fD, reduceLE, reduceLT, reduceLeDiff, UInt8.reduceToNat, ↓reduceIte, reduceEqDiff, reduceAdd, reduceCtorEq, reduceToNat, h3, h8, h9, h10, hg, hlt, hr, Tryd.f133]
    exact hx

theorem trimL_spec (s p : List Nat) (h : H) : Exact S.cfg 132 [.str s, .str p] h (.str (trimS s p)) := by
  refine into Tryd.f132 _ Tryd.func132 (hS.ownC _ (by decide)) rfl rfl (by kernel_rfl) (by kernel_rfl) ?_
  simp +contextual (disch := first | (simp only [fr]; done) | omega | (simp only [Knx]; omega) | (apply Nat.le_antisymm <;> simp only [Knx] <;> omega) | fail) only [wpy, fD, reduceLE, reduceLT, reduceLeDiff, UInt8.reduceToNat, ↓reduceIte, reduceEqDiff, reduceAdd, reduceCtorEq, reduceToNat, Tryd.f132]
  refine callF_exact (hasPrefixL_spec hS.toStdF.toStd _ _ _) ?_
  by_cases c : hasP s p
  · have c1 := c.1
    have c2 := c.2
    rw [trimS, if_pos c]
    simp +contextual (disch := first | (simp only [fr]; done) | omega | (simp only [Knx]; omega) | (apply Nat.le_antisymm <;> simp only [Knx] <;> omega) | fail) only [wpy, fD, reduceLE, reduceLT, reduceLeDiff, UInt8.reduceToNat, ↓reduceIte, reduceEqDiff, reduceAdd, reduceCtorEq, reduceToNat, Tryd.f132, c1, c2]
  · have c1 : ¬ (p.length ≤ s.length ∧ s.take p.length = p) := c
    rw [trimS, if_neg c]
    simp +contextual (disch := first | (simp only [fr]; done) | omega | (simp only [Knx]; omega) | (apply Nat.le_antisymm <;> simp only [Knx] <;> omega) | fail) only [wpy, fD, reduceLE, reduceLT, reduceLeDiff, UInt8.reduceToNat, ↓reduceIte, reduceEqDiff, reduceAdd, reduceCtorEq, reduceToNat, Tryd.f132, c1]
theorem trim_spec (s p : List Nat) (h : H) : Exact S.cfg 103 [.str s, .str p] h (.str (trimS s p)) := by
  refine into Tryd.f103 _ Tryd.func103 (hS.ownC _ (by decide)) rfl rfl (by kernel_rfl) (by kernel_rfl) ?_
  simp +contextual (disch := first | (simp only [fr]; done) | omega | (simp only [Knx]; omega) | (apply Nat.le_antisymm <;> simp only [Knx] <;> omega) | fail) only [wpy, fD, reduceLE, reduceLT, reduceLeDiff, UInt8.reduceToNat, ↓reduceIte, reduceEqDiff, reduceAdd, reduceCtorEq, reduceToNat, Tryd.f103]
  refine callF_exact (trimL_spec hS _ _ _) ?_
  simp +contextual (disch := first | (simp only [fr]; done) | omega | (simp only [Knx]; omega) | (apply Nat.le_antisymm <;> simp only [Knx] <;> omega) | fail) only [wpy, fD, reduceLE, reduceLT, reduceLeDiff, UInt8.reduceToNat, ↓reduceIte, reduceEqDiff, reduceAdd, reduceCtorEq, reduceToNat, Tryd.f103]
end
variable {S : Set0} (hS : StdE S)
include hS
theorem locked_spec (lv : V) (ws : List WD) (h : H) (ha : Wds h lv ws) (hw : ws.length < 2 ^ 40) : Pure S.cfg 100 [lv] h fun v _ => v = bo (lockedP ws) := by
  refine into Tryd.f100 _ Tryd.func100 (hS.ownC _ (by decide)) rfl rfl (by kernel_rfl) (by kernel_rfl) ?_
  have a1 := ha.len
  simp +contextual (disch := first | (simp only [fr]; done) | omega | (simp only [Knx]; omega) | (apply Nat.le_antisymm <;> simp only [Knx] <;> omega) | fail) only [wpy, fD, reduceLE, reduceLT, reduceLeDiff, UInt8.reduceToNat, ↓reduceIte, reduceEqDiff, reduceAdd, reduceCtorEq, reduceToNat, Tryd.f100]
  refine callF_pure (setG_spec hS.toStdC lockT lockL 5 rfl (by decide) (by decide) hS.lockF h) ?_
  rintro v h1 hx1 ⟨m, n, rfl, hm0, hm1, hgm⟩
  simp +contextual (disch := first | (simp only [fr]; done) | omega | (simp only [Knx]; omega) | (apply Nat.le_antisymm <;> simp only [Knx] <;> omega) | fail) only [wpy, fD, reduceLE, reduceLT, reduceLeDiff, UInt8.reduceToNat, ↓reduceIte, reduceEqDiff, reduceAdd, reduceCtorEq, reduceToNat, Tryd.f100, a1]
  refine run_loop (fun k env h' => ∃ i : Nat, k = ws.length - i ∧ i ≤ ws.length ∧ env 0 = lv ∧ env 3 = .map m ∧ env 7 = lv ∧ env 8 = .int .i64 ws.length ∧ env 9 = .int .i64 i ∧ Ext h1 h' ∧ ∀ j, j < i → ¬ (knd ws j = 1 ∧ txt ws j ∈ lockL)) ws.length ⟨0, ?_⟩ ?_
  · simp +contextual (disch := first | (simp only [fr]; done) | omega | (simp only [Knx]; omega) | (apply Nat.le_antisymm <;> simp only [Knx] <;> omega) | fail) only [wpy, fD, reduceLE, reduceLT, reduceLeDiff, UInt8.reduceToNat, ↓reduceIte, reduceEqDiff, reduceAdd, reduceCtorEq, reduceToNat]
    exact ⟨(Nat.sub_zero _).symm, Ext.refl _, fun j hj => by omega⟩
  rintro k env h' ⟨i, rfl, hi, e0, e3, e7, e8, e9, hx, hno⟩
  have hxn := hx.1
  by_cases hi2 : i < ws.length
  · obtain ⟨b, o, mc, c, e, fl, rfl, hbn, hgb, w0, w1⟩ := ((ha.ext hx1).ext hx).get hi2
    rw [← wordAt_lt hi2] at w1
    have hW : (wordAt ws i).cells = [.int .i64 (knd ws i), .str (txt ws i), .int .i64 (wordAt ws i).at_] := rfl
    rw [hW] at w1
    have hgm' : h'.get m = some (.map (setE 0 lockL) n) := by rw [hx.2 m hm1]; exact hgm
    have hnext : ¬ (knd ws i = 1 ∧ txt ws i ∈ lockL) → ∀ j, j < i + 1 → ¬ (knd ws j = 1 ∧ txt ws j ∈ lockL) := fun q j hj => by
      by_cases hji : j < i
      · exact hno j hji
      · obtain rfl : j = i := by omega
        exact q
    by_cases c1 : knd ws i = 1
    · simp +contextual (disch := first | (simp only [fr]; done) | omega | (simp only [Knx]; omega) | (apply Nat.le_antisymm <;> simp only [Knx] <;> omega) | exact dok (by kernel_rfl)) only [draw_calm, draw_calmA, wpy, fD, reduceLE, reduceLT, reduceLeDiff, UInt8.reduceToNat, ↓reduceIte, reduceEqDiff, reduceAdd, reduceCtorEq, reduceToNat, Tryd.f100, e0, e3, e7, e8, e9, hi2, hgb, w0, w1, c1]
      refine ⟨.inr (by omega), callF_pure (in_spec hS.toStdC _ m lockL n _ (by show m < h'.nx + 1; omega) ?_) ?_⟩
      · simp +contextual (disch := first | (simp only [fr]; done) | omega | (simp only [Knx]; omega) | (apply Nat.le_antisymm <;> simp only [Knx] <;> omega) | fail) only [wpy, fD, reduceLE, reduceLT, reduceLeDiff, UInt8.reduceToNat, ↓reduceIte, reduceEqDiff, reduceAdd, reduceCtorEq, reduceToNat, hgm']
      rintro v h4 hx4 rfl
      have hX4 : Ext h1 h4 := ((hx.push _).put (by omega) _).trans hx4
      by_cases cin : txt ws i ∈ lockL
      · simp +contextual (disch := first | (simp only [fr]; done) | omega | (simp only [Knx]; omega) | (apply Nat.le_antisymm <;> simp only [Knx] <;> omega) | exact dok (by kernel_rfl)) only [draw_calm, draw_calmA, wpy, fD, reduceLE, reduceLT, reduceLeDiff, UInt8.reduceToNat, ↓reduceIte, reduceEqDiff, reduceAdd, reduceCtorEq, reduceToNat, Tryd.f100, e0, e3, e7, e8, e9, cin]
        exact ⟨hx1.trans hX4, by rw [eq_true (show lockedP ws from ⟨i, hi2, c1, cin⟩)]⟩
      · simp +contextual (disch := first | (simp only [fr]; done) | omega | (simp only [Knx]; omega) | (apply Nat.le_antisymm <;> simp only [Knx] <;> omega) | exact dok (by kernel_rfl)) only [draw_calm, draw_calmA, wpy, fD, reduceLE, reduceLT, reduceLeDiff, UInt8.reduceToNat, ↓reduceIte, reduceEqDiff, reduceAdd, reduceCtorEq, reduceToNat, Tryd.f100, e0, e3, e7, e8, e9, cin]
        refine ⟨_, ?_, i + 1, rfl, by omega, rfl, hX4, hnext fun q => cin q.2⟩
        omega
    · simp +contextual (disch := first | (simp only [fr]; done) | omega | (simp only [Knx]; omega) | (apply Nat.le_antisymm <;> simp only [Knx] <;> omega) | exact dok (by kernel_rfl)) only [draw_calm, draw_calmA, wpy, fD, reduceLE, reduceLT, reduceLeDiff, UInt8.reduceToNat, ↓reduceIte, reduceEqDiff, reduceAdd, reduceCtorEq, reduceToNat, Tryd.f100, e0, e3, e7, e8, e9, hi2, hgb, w0, w1, c1]
      refine ⟨.inr (by omega), _, ?_, i + 1, rfl, by omega, rfl, (hx.push _).put (by omega) _, hnext fun q => c1 q.1⟩
      omega
  · simp +contextual (disch := first | (simp only [fr]; done) | omega | (simp only [Knx]; omega) | (apply Nat.le_antisymm <;> simp only [Knx] <;> omega) | exact dok (by kernel_rfl)) only [draw_calm, draw_calmA, wpy, fD, reduceLE, reduceLT, reduceLeDiff, UInt8.reduceToNat, ↓reduceIte, reduceEqDiff, reduceAdd, reduceCtorEq, reduceToNat, Tryd.f100, e0, e3, e7, e8, e9, hi2]
    exact ⟨hx1.trans hx, by
      have hno' : ¬ lockedP ws := fun ⟨j, hj, q⟩ => hno j (by omega) q
      rw [eq_false hno']⟩
theorem settable_spec (n v : List Nat) (h : H) (hl : n.length < 2 ^ 60) (hb : Bytes n) : Pure S.cfg 104 [.str n, .str v] h fun x _ => x = (setF n v).v := by
  refine into Tryd.f104 _ Tryd.func104 (hS.ownC _ (by decide)) rfl rfl (by kernel_rfl) (by kernel_rfl) ?_
  simp +contextual (disch := first | (simp only [fr]; done) | omega | (simp only [Knx]; omega) | (apply Nat.le_antisymm <;> simp only [Knx] <;> omega) | fail) only [wpy, fD, reduceLE, reduceLT, reduceLeDiff, UInt8.reduceToNat, ↓reduceIte, reduceEqDiff, reduceAdd, reduceCtorEq, reduceToNat, Tryd.f104]
  refine callF_pure (lower_spec hS.toStdC n _ (by omega) hb) ?_
  rintro v1 h1 hx1 rfl
  simp +contextual (disch := first | (simp only [fr]; done) | omega | (simp only [Knx]; omega) | (apply Nat.le_antisymm <;> simp only [Knx] <;> omega) | fail) only [wpy, fD, reduceLE, reduceLT, reduceLeDiff, UInt8.reduceToNat, ↓reduceIte, reduceEqDiff, reduceAdd, reduceCtorEq, reduceToNat, Tryd.f104]
  refine callF_pure (setG_spec hS.toStdC varT varL 4 rfl (by decide) (by decide) hS.varF h1) ?_
  rintro v2 h2 hx2 ⟨m, k, rfl, hm0, hm1, hgm⟩
  simp +contextual (disch := first | (simp only [fr]; done) | omega | (simp only [Knx]; omega) | (apply Nat.le_antisymm <;> simp only [Knx] <;> omega) | fail) only [wpy, fD, reduceLE, reduceLT, reduceLeDiff, UInt8.reduceToNat, ↓reduceIte, reduceEqDiff, reduceAdd, reduceCtorEq, reduceToNat, Tryd.f104]
  refine callF_pure (in_spec hS.toStdC _ m varL k _ hm1 hgm) ?_
  rintro v3 h3 hx3 rfl
  have hX := (hx1.trans hx2).trans hx3
  have hz : h3.get h.nx = some (.cells [.int .i64 0, .str [], .str []] 45 false) := by
    rw [hx3.2 _ (by have := hx1.1; have := hx2.1; have : h.nx + 1 ≤ h1.nx := hx1.1; omega), hx2.2 _ (by have : h.nx + 1 ≤ h1.nx := hx1.1; omega), hx1.2 _ (Nat.lt_succ_self _)]
    exact push_eq rfl
  have hn3 : h.nx < h3.nx := by have : h.nx + 1 ≤ h1.nx := hx1.1; have := hx2.1; have := hx3.1; omega
  have hX0 : Ext h h3 := ((Ext.refl h).push _).trans hX
  by_cases cin : lowS n ∈ varL
  · have e : setF n v = ⟨13, [], []⟩ := by unfold setF; rw [if_pos (.inl cin)]
    rw [e]
    simp +contextual (disch := first | (simp only [fr]; done) | omega | (simp only [Knx]; omega) | (apply Nat.le_antisymm <;> simp only [Knx] <;> omega) | fail) only [wpy, fD, reduceLE, reduceLT, reduceLeDiff, UInt8.reduceToNat, ↓reduceIte, reduceEqDiff, reduceAdd, reduceCtorEq, reduceToNat, Tryd.f104, cin, hz]
    exact ⟨hX0.put (Nat.le_refl _) _, rfl⟩
  · simp +contextual (disch := first | (simp only [fr]; done) | omega | (simp only [Knx]; omega) | (apply Nat.le_antisymm <;> simp only [Knx] <;> omega) | fail) only [wpy, fD, reduceLE, reduceLT, reduceLeDiff, UInt8.reduceToNat, ↓reduceIte, reduceEqDiff, reduceAdd, reduceCtorEq, reduceToNat, Tryd.f104, cin]
    refine callF_exact (hasPrefix_spec hS.toStdF.toStd _ _ _) ?_
    by_cases cp : hasP (lowS n) sqlT
    · have c1 : 7 ≤ (lowS n).length := cp.1
      have c2 : List.take 7 (lowS n) = [115, 113, 108, 95, 108, 111, 103] := cp.2
      have e : setF n v = ⟨13, [], []⟩ := by unfold setF; rw [if_pos (.inr cp)]
      rw [e]
      simp +contextual (disch := first | (simp only [fr]; done) | omega | (simp only [Knx]; omega) | (apply Nat.le_antisymm <;> simp only [Knx] <;> omega) | fail) only [wpy, fD, reduceLE, reduceLT, reduceLeDiff, UInt8.reduceToNat, ↓reduceIte, reduceEqDiff, reduceAdd, reduceCtorEq, reduceToNat, Tryd.f104, cin, hz, c1, c2]
      exact ⟨hX0.put (Nat.le_refl _) _, rfl⟩
    · have c1 : ¬ (7 ≤ (lowS n).length ∧ List.take 7 (lowS n) = [115, 113, 108, 95, 108, 111, 103]) := cp
      have e : setF n v = ⟨5, lowS n, v⟩ := by unfold setF; rw [if_neg fun q => q.elim cin cp]
      rw [e]
      simp +contextual (disch := first | (simp only [fr]; done) | omega | (simp only [Knx]; omega) | (apply Nat.le_antisymm <;> simp only [Knx] <;> omega) | fail) only [wpy, fD, reduceLE, reduceLT, reduceLeDiff, UInt8.reduceToNat, ↓reduceIte, reduceEqDiff, reduceAdd, reduceCtorEq, reduceToNat, Tryd.f104, cin, hz, c1]
      exact ⟨hX0.put (Nat.le_refl _) _, rfl⟩
end
end Go.Proofs.YtkibhdbmamfjcaaDoor
set_option linter.unusedSimpArgs false
set_option linter.unusedVariables false
set_option linter.defProp false
set_option maxRecDepth 10000
namespace Go.Proofs.YtkibhdbmamfjcaaDoor
open Int (reduceLE reduceLT reduceToNat)
open Nat (reduceLeDiff reduceEqDiff reduceAdd)
open Go.Proofs Go.Lx Go.Wx Go.IntWalk
noncomputable section
structure CZ (h0 h : H) : Prop where
  ext : Ext h0 h
  lt : h0.nx < h.nx
  z : h.get h0.nx = some (.cells [.int .i64 0, .str [], .str []] 45 false)
theorem CZ.new (h0 : H) : CZ h0 (h0.push (.cells [.int .i64 0, .str [], .str []] 45 false)) := ⟨(Ext.refl _).push _, Nat.lt_succ_self _, push_eq rfl⟩
theorem CZ.more {h0 h h' : H} (C : CZ h0 h) (hx : Ext h h') : CZ h0 h' := ⟨C.ext.trans hx, Nat.lt_of_lt_of_le C.lt hx.1, by rw [hx.2 _ C.lt]; exact C.z⟩
theorem CZ.but {h0 h h' : H} {r : Nat} (C : CZ h0 h) (hr : h0.nx < r) (hb : But r h h') : CZ h0 h' := ⟨Ext.but C.ext hb (Nat.le_of_lt hr), Nat.lt_of_lt_of_le C.lt hb.1, by rw [hb.2 _ C.lt (by omega)]; exact C.z⟩
theorem CZ.done {h0 h : H} (C : CZ h0 h) (o : Ob) : Ext h0 (h.put h0.nx o) := C.ext.put (Nat.le_refl _) _
structure RC (h0 h : H) (r : Nat) (lv : V) (ws : List WD) (a : Nat) : Prop where
  cz : CZ h0 h
  own : h0.nx < r
  rd : Rdr h r lv ws a
theorem RC.new {h0 h : H} {lv : V} {ws : List WD} (C : CZ h0 h) (ha : Wds h0 lv ws) : RC h0 (h.push (.cells [lv, .int .i64 0] 115 false)) h.nx lv ws 0 := ⟨C.more ((Ext.refl h).push _), C.lt, Rdr.new (ha.ext C.ext)⟩
theorem RC.step {h0 h h' : H} {r : Nat} {lv : V} {ws : List WD} {a a' : Nat} (C : RC h0 h r lv ws a) (hb : But r h h') (R : Rdr h' r lv ws a') : RC h0 h' r lv ws a' := ⟨C.cz.but C.own hb, C.own, R⟩
theorem RC.more {h0 h h' : H} {r : Nat} {lv : V} {ws : List WD} {a : Nat} (C : RC h0 h r lv ws a) (hx : Ext h h') : RC h0 h' r lv ws a := ⟨C.cz.more hx, C.own, C.rd.ext hx⟩
theorem optV_some (c : CL) : ansV (some c) = .tuple [c.v, bo True] := by unfold ansV; simp
theorem optV_none : ansV Option.none = .tuple [.agg [.int .i64 0, .str [], .str []], bo False] := by unfold ansV; simp [CL.none, CL.v]

section
variable {S : Set0} (hS : StdC S)
include hS
variable {h0 h : H} {r : Nat} {lv : V} {ws : List WD} {a : Nat} {Ok : Nat → Prop} {K : V → H → Fp → Prop}
theorem rc_is (C : RC h0 h r lv ws a) (hw : ws.length < 2 ^ 40) (s : List Nat) (hs : 0 < s.length ∧ Bytes s) (hK : ∀ h', RC h0 h' r lv ws (a + if isC ws a s then 1 else 0) → K (bo (isC ws a s)) h' (.cl h.nx h'.nx fun k => k = r)) : callF S.cfg (fresh h0.nx Ok) 57 [.ptr r 0, .str s] h K :=
  callF_of (is_rd hS C.rd hw s hs) (fun k q => by rw [fresh_def]; exact .inl (by have := C.own; omega)) fun v h' ⟨e, hb, R⟩ => by subst e; exact hK h' (C.step hb R)
theorem rc_over (C : RC h0 h r lv ws a) (hK : K (bo (a = ws.length)) h (.cl h.nx h.nx nil1)) : callF S.cfg (fresh h0.nx Ok) 59 [.ptr r 0] h K := callF_exact (over_rd hS C.rd) hK
theorem rc_kind (C : RC h0 h r lv ws a) (hw : ws.length < 2 ^ 40) (k : Nat) (hk : 0 < k) (hK : ∀ h', RC h0 h' r lv ws (a + if knd ws a = k then 1 else 0) → K (.tuple [.str (if knd ws a = k then txt ws a else []), bo (knd ws a = k)]) h' (.cl h.nx h'.nx fun k => k = r)) : callF S.cfg (fresh h0.nx Ok) 99 [.ptr r 0, .int .i64 k] h K :=
  callF_of (kind_rd hS C.rd hw k hk) (fun k q => by rw [fresh_def]; exact .inl (by have := C.own; omega)) fun v h' ⟨e, hb, R⟩ => by subst e; exact hK h' (C.step hb R)
theorem rc_name (C : RC h0 h r lv ws a) (hw : ws.length < 2 ^ 40) (hK : ∀ h', RC h0 h' r lv ws (a + if nameP ws a then 1 else 0) → K (.tuple [.str (if nameP ws a then txt ws a else []), bo (nameP ws a)]) h' (.cl h.nx h'.nx fun k => k = r)) : callF S.cfg (fresh h0.nx Ok) 58 [.ptr r 0] h K :=
  callF_of (name_rd hS C.rd hw) (fun k q => by rw [fresh_def]; exact .inl (by have := C.own; omega)) fun v h' ⟨e, hb, R⟩ => by subst e; exact hK h' (C.step hb R)
theorem rc_table (C : RC h0 h r lv ws a) (hw : ws.length < 2 ^ 40) (ht : ∀ i, (txt ws i).length < 2 ^ 40) (hK : ∀ h', RC h0 h' r lv ws ((tableF ws a).getD ([], a)).2 → K (.tuple [.str ((tableF ws a).getD ([], a)).1, bo ((tableF ws a).isSome = true)]) h' (.cl h.nx h'.nx fun k => k = r)) : callF S.cfg (fresh h0.nx Ok) 101 [.ptr r 0] h K :=
  callF_of (table_rd hS C.rd hw ht) (fun k q => by rw [fresh_def]; exact .inl (by have := C.own; omega)) fun v h' ⟨e, hb, R⟩ => by subst e; exact hK h' (C.step hb R)
theorem rc_literal (C : RC h0 h r lv ws a) (hw : ws.length < 2 ^ 40) (ht : ∀ i, (txt ws i).length < 2 ^ 40) (hK : ∀ h', RC h0 h' r lv ws ((litF ws a).getD ([], a)).2 → K (.tuple [.str ((litF ws a).getD ([], a)).1, bo ((litF ws a).isSome = true)]) h' (.cl h.nx h'.nx fun k => k = r)) : callF S.cfg (fresh h0.nx Ok) 105 [.ptr r 0] h K :=
  callF_of (literal_rd hS C.rd hw ht) (fun k q => by rw [fresh_def]; exact .inl (by have := C.own; omega)) fun v h' ⟨e, hb, R⟩ => by subst e; exact hK h' (C.step hb R)
theorem rc_assigned (C : RC h0 h r lv ws a) (hw : ws.length < 2 ^ 40) (ht : ∀ i, (txt ws i).length < 2 ^ 40) (hK : ∀ h' x, CZ h0 h' → (∀ t, assF ws a = some t → x = t) → K (.tuple [.str x, bo ((assF ws a).isSome = true)]) h' (.cl h.nx h'.nx fun k => k = r)) : callF S.cfg (fresh h0.nx Ok) 102 [.ptr r 0] h K :=
  callF_of (assigned_rd hS C.rd hw ht) (fun k q => by rw [fresh_def]; exact .inl (by have := C.own; omega)) fun v h' ⟨⟨x, e, q⟩, hb⟩ => by subst e; exact hK h' x (C.cz.but C.own hb) q
theorem rc_all (C : RC h0 h r lv ws a) (hw : ws.length < 2 ^ 40) (l : List (List Nat)) (hl : ∀ s ∈ l, 0 < s.length ∧ Bytes s) (hll : l.length < 2 ^ 40) (ha : a ≤ 2 ^ 40) (e : TypeId) (he : e = 9) (hK : ∀ h', RC h0 h' r lv ws (a + if allC ws a l then l.length else 0) → K (bo (allC ws a l)) h' (.cl (h.nx + 1) h'.nx fun k => k = r)) : callF S.cfg (fresh h0.nx Ok) 98 [.ptr r 0, .slice h.nx 0 l.length l.length] (h.push (.cells (l.map V.str) e false)) K := by
  subst he
  have C1 := C.more ((Ext.refl h).push (.cells (l.map V.str) 9 false))
  have hlt := C.rd.lt
  exact callF_of (rAll_spec hS r a lv ws l h.nx _ hl hll C1.rd.lt (Nat.lt_succ_self _) (by omega) (push_eq rfl) C1.rd.get C1.rd.wds C1.rd.ne hw ha) (fun k q => by rw [fresh_def]; exact .inl (by have := C.own; omega)) fun v h' ⟨e, hb, hg⟩ => by subst e; exact hK h' (C1.step hb (C1.rd.step hb hg))
theorem rc_either (C : RC h0 h r lv ws a) (hw : ws.length < 2 ^ 40) (l : List (List Nat)) (hl : ∀ s ∈ l, 0 < s.length ∧ Bytes s) (hll : l.length < 2 ^ 40) (e : TypeId) (he : e = 9) (hK : ∀ h', RC h0 h' r lv ws (a + if anyC ws a l then 1 else 0) → K (bo (anyC ws a l)) h' (.cl (h.nx + 1) h'.nx fun k => k = r)) : callF S.cfg (fresh h0.nx Ok) 95 [.ptr r 0, .slice h.nx 0 l.length l.length] (h.push (.cells (l.map V.str) e false)) K := by
  subst he
  have C1 := C.more ((Ext.refl h).push (.cells (l.map V.str) 9 false))
  have hlt := C.rd.lt
  exact callF_of (rEither_spec hS r a lv ws l h.nx _ hl hll C1.rd.lt (Nat.lt_succ_self _) (by omega) (push_eq rfl) C1.rd.get C1.rd.wds C1.rd.ne hw) (fun k q => by rw [fresh_def]; exact .inl (by have := C.own; omega)) fun v h' ⟨e, hb, hg⟩ => by subst e; exact hK h' (C1.step hb (C1.rd.step hb hg))
theorem rc_reads (C : CZ h0 h) (ha : Wds h0 lv ws) (hK : RC h0 (h.push (.cells [lv, .int .i64 0] 115 false)) h.nx lv ws 0 → K (.ptr h.nx 0) (h.push (.cells [lv, .int .i64 0] 115 false)) (.cl h.nx (h.nx + 1) nil1)) : callF S.cfg (fresh h0.nx Ok) 56 [lv] h K :=
  callF_pure (reads_spec hS lv ws h (ha.ext C.ext)) fun v h' hx ⟨e1, e2⟩ => by subst e1; subst e2; exact hK (RC.new C ha)
end

def bgnT : List Nat := [98, 101, 103, 105, 110]
def wrkT : List Nat := [119, 111, 114, 107]
def strL : List (List Nat) := [[115, 116, 97, 114, 116], [116, 114, 97, 110, 115, 97, 99, 116, 105, 111, 110]]
def comL : List (List Nat) := [[99, 111, 109, 109, 105, 116], [114, 111, 108, 108, 98, 97, 99, 107]]
def tr1 (ws : List WD) : Prop := isC ws 0 bgnT ∧ (1 + if isC ws 1 wrkT then 1 else 0) = ws.length
def tr3 (ws : List WD) : Prop := anyC ws 0 comL ∧ (1 + if isC ws 1 wrkT then 1 else 0) = ws.length
noncomputable instance (ws : List WD) : Decidable (tr1 ws) := Classical.propDecidable _
noncomputable instance (ws : List WD) : Decidable (tr3 ws) := Classical.propDecidable _
def transF (ws : List WD) : Option CL := if tr1 ws then some ⟨3, [], []⟩ else if allC ws 0 strL then some ⟨3, [], []⟩ else if tr3 ws then some ⟨4, [], []⟩ else none

variable {S : Set0} (hS : StdC S)
include hS
theorem trans_spec (lv : V) (ws : List WD) (h : H) (ha : Wds h lv ws) (hw : ws.length < 2 ^ 40) : Pure S.cfg 54 [lv] h fun v _ => v = ansV (transF ws) := by
  refine into Tryd.f54 _ Tryd.func54 (hS.ownC _ (by decide)) rfl rfl (by kernel_rfl) (by kernel_rfl) ?_
  simp +contextual (disch := first | (simp only [fr]; done) | omega | (simp only [Knx]; omega) | (apply Nat.le_antisymm <;> simp only [Knx] <;> omega) | fail) only [wpyr, fD, reduceLE, reduceLT, reduceLeDiff, UInt8.reduceToNat, ↓reduceIte, reduceEqDiff, reduceAdd, reduceCtorEq, reduceToNat, Tryd.f54]
  refine rc_reads hS (CZ.new h) ha fun C1 => ?_
  simp +contextual (disch := first | (simp only [fr]; done) | omega | (simp only [Knx]; omega) | (apply Nat.le_antisymm <;> simp only [Knx] <;> omega) | fail) only [wpyr, fD, reduceLE, reduceLT, reduceLeDiff, UInt8.reduceToNat, ↓reduceIte, reduceEqDiff, reduceAdd, reduceCtorEq, reduceToNat, Tryd.f54]
  refine rc_is hS C1 hw bgnT ⟨by decide, (goodTs (l := [bgnT]) (by decide) _ (by simp)).2⟩ fun h2 C2 => ?_
  simp +contextual (disch := first | (simp only [fr]; done) | omega | (simp only [Knx]; omega) | (apply Nat.le_antisymm <;> simp only [Knx] <;> omega) | fail) only [wpyr, fD, reduceLE, reduceLT, reduceLeDiff, UInt8.reduceToNat, ↓reduceIte, reduceEqDiff, reduceAdd, reduceCtorEq, reduceToNat, Tryd.f54]
  refine run_cut (fun env' h' => env' 0 = lv ∧ env' 2 = .ptr h.nx 0 ∧ CZ h h' ∧ ¬ tr1 ws) ?_ ?_
  · by_cases c1 : isC ws 0 bgnT
    · rw [if_pos c1] at C2
      simp +contextual (disch := first | (simp only [fr]; done) | omega | (simp only [Knx]; omega) | (apply Nat.le_antisymm <;> simp only [Knx] <;> omega) | fail) only [wpy, fD, reduceLE, reduceLT, reduceLeDiff, UInt8.reduceToNat, ↓reduceIte, reduceEqDiff, reduceAdd, reduceCtorEq, reduceToNat, Tryd.f54, c1]
      refine rc_is hS C2 hw wrkT ⟨by decide, (goodTs (l := [wrkT]) (by decide) _ (by simp)).2⟩ fun h3 C3 => ?_
      simp +contextual (disch := first | (simp only [fr]; done) | omega | (simp only [Knx]; omega) | (apply Nat.le_antisymm <;> simp only [Knx] <;> omega) | fail) only [wpy, fD, reduceLE, reduceLT, reduceLeDiff, UInt8.reduceToNat, ↓reduceIte, reduceEqDiff, reduceAdd, reduceCtorEq, reduceToNat, Tryd.f54]
      refine rc_over hS C3 ?_
      by_cases c2 : (0 + 1 + if isC ws (0 + 1) wrkT then 1 else 0) = ws.length
      · have e : transF ws = some ⟨3, [], []⟩ := by unfold transF; rw [if_pos (show tr1 ws from ⟨c1, c2⟩)]
        have hz := C3.cz.z
        rw [e, optV_some]
        simp +contextual (disch := first | (simp only [fr]; done) | omega | (simp only [Knx]; omega) | (apply Nat.le_antisymm <;> simp only [Knx] <;> omega) | fail) only [wpy, fD, reduceLE, reduceLT, reduceLeDiff, UInt8.reduceToNat, ↓reduceIte, reduceEqDiff, reduceAdd, reduceCtorEq, reduceToNat, Tryd.f54, c2, hz]
        exact ⟨C3.cz.done _, rfl⟩
      · simp +contextual (disch := first | (simp only [fr]; done) | omega | (simp only [Knx]; omega) | (apply Nat.le_antisymm <;> simp only [Knx] <;> omega) | fail) only [wpy, fD, reduceLE, reduceLT, reduceLeDiff, UInt8.reduceToNat, ↓reduceIte, reduceEqDiff, reduceAdd, reduceCtorEq, reduceToNat, Tryd.f54, c2]
        exact ⟨C3.cz, fun q => c2 q.2⟩
    · simp +contextual (disch := first | (simp only [fr]; done) | omega | (simp only [Knx]; omega) | (apply Nat.le_antisymm <;> simp only [Knx] <;> omega) | fail) only [wpy, fD, reduceLE, reduceLT, reduceLeDiff, UInt8.reduceToNat, ↓reduceIte, reduceEqDiff, reduceAdd, reduceCtorEq, reduceToNat, Tryd.f54, c1]
      exact ⟨C2.cz, fun q => c1 q.1⟩
  rintro env' h3 ⟨e0, e2, C3, n1⟩
  simp +contextual (disch := first | (simp only [fr]; done) | omega | (simp only [Knx]; omega) | (apply Nat.le_antisymm <;> simp only [Knx] <;> omega) | fail) only [wpyr, fD, reduceLE, reduceLT, reduceLeDiff, UInt8.reduceToNat, ↓reduceIte, reduceEqDiff, reduceAdd, reduceCtorEq, reduceToNat, Tryd.f54, e0, e2]
  refine rc_reads hS C3 ha fun C4 => ?_
  simp +contextual (disch := first | (simp only [fr]; done) | omega | (simp only [Knx]; omega) | (apply Nat.le_antisymm <;> simp only [Knx] <;> omega) | fail) only [wpyr, fD, reduceLE, reduceLT, reduceLeDiff, UInt8.reduceToNat, ↓reduceIte, reduceEqDiff, reduceAdd, reduceCtorEq, reduceToNat, Tryd.f54, e0, e2]
  refine rc_all hS C4 hw strL (goodTs (by decide)) (by decide) (by decide) 9 rfl fun h5 C5 => ?_
  by_cases c3 : allC ws 0 strL
  · have e : transF ws = some ⟨3, [], []⟩ := by unfold transF; rw [if_neg n1, if_pos c3]
    have hz := C5.cz.z
    rw [e, optV_some]
    simp +contextual (disch := first | (simp only [fr]; done) | omega | (simp only [Knx]; omega) | (apply Nat.le_antisymm <;> simp only [Knx] <;> omega) | fail) only [wpy, fD, reduceLE, reduceLT, reduceLeDiff, UInt8.reduceToNat, ↓reduceIte, reduceEqDiff, reduceAdd, reduceCtorEq, reduceToNat, Tryd.f54, e0, e2, c3, hz]
    exact ⟨C5.cz.done _, rfl⟩
  simp +contextual (disch := first | (simp only [fr]; done) | omega | (simp only [Knx]; omega) | (apply Nat.le_antisymm <;> simp only [Knx] <;> omega) | fail) only [wpyr, fD, reduceLE, reduceLT, reduceLeDiff, UInt8.reduceToNat, ↓reduceIte, reduceEqDiff, reduceAdd, reduceCtorEq, reduceToNat, Tryd.f54, e0, e2]
  have C5z := C5.cz
  refine run_cut (fun env' h' => env' 0 = lv ∧ env' 2 = .ptr h.nx 0 ∧ CZ h h') ?_ ?_
  · simp +contextual (disch := first | (simp only [fr]; done) | omega | (simp only [Knx]; omega) | (apply Nat.le_antisymm <;> simp only [Knx] <;> omega) | fail) only [wpy, fD, reduceLE, reduceLT, reduceLeDiff, UInt8.reduceToNat, ↓reduceIte, reduceEqDiff, reduceAdd, reduceCtorEq, reduceToNat, Tryd.f54, c3, e0, e2]
    exact C5z
  rintro env' h6 ⟨e0, e2, C6⟩
  simp +contextual (disch := first | (simp only [fr]; done) | omega | (simp only [Knx]; omega) | (apply Nat.le_antisymm <;> simp only [Knx] <;> omega) | fail) only [wpyr, fD, reduceLE, reduceLT, reduceLeDiff, UInt8.reduceToNat, ↓reduceIte, reduceEqDiff, reduceAdd, reduceCtorEq, reduceToNat, Tryd.f54, e0, e2]
  refine rc_reads hS C6 ha fun C7 => ?_
  simp +contextual (disch := first | (simp only [fr]; done) | omega | (simp only [Knx]; omega) | (apply Nat.le_antisymm <;> simp only [Knx] <;> omega) | fail) only [wpyr, fD, reduceLE, reduceLT, reduceLeDiff, UInt8.reduceToNat, ↓reduceIte, reduceEqDiff, reduceAdd, reduceCtorEq, reduceToNat, Tryd.f54, e0, e2]
  refine rc_either hS C7 hw comL (goodTs (by decide)) (by decide) 9 rfl fun h8 C8 => ?_
  simp +contextual (disch := first | (simp only [fr]; done) | omega | (simp only [Knx]; omega) | (apply Nat.le_antisymm <;> simp only [Knx] <;> omega) | fail) only [wpyr, fD, reduceLE, reduceLT, reduceLeDiff, UInt8.reduceToNat, ↓reduceIte, reduceEqDiff, reduceAdd, reduceCtorEq, reduceToNat, Tryd.f54, e0, e2]
  refine run_cut (fun env' h' => env' 0 = lv ∧ env' 2 = .ptr h.nx 0 ∧ CZ h h' ∧ ¬ tr3 ws) ?_ ?_
  · by_cases c1 : anyC ws 0 comL
    · rw [if_pos c1] at C8
      simp +contextual (disch := first | (simp only [fr]; done) | omega | (simp only [Knx]; omega) | (apply Nat.le_antisymm <;> simp only [Knx] <;> omega) | fail) only [wpy, fD, reduceLE, reduceLT, reduceLeDiff, UInt8.reduceToNat, ↓reduceIte, reduceEqDiff, reduceAdd, reduceCtorEq, reduceToNat, Tryd.f54, c1, e0, e2]
      refine rc_is hS C8 hw wrkT ⟨by decide, (goodTs (l := [wrkT]) (by decide) _ (by simp)).2⟩ fun h9 C9 => ?_
      simp +contextual (disch := first | (simp only [fr]; done) | omega | (simp only [Knx]; omega) | (apply Nat.le_antisymm <;> simp only [Knx] <;> omega) | fail) only [wpy, fD, reduceLE, reduceLT, reduceLeDiff, UInt8.reduceToNat, ↓reduceIte, reduceEqDiff, reduceAdd, reduceCtorEq, reduceToNat, Tryd.f54, e0, e2]
      refine rc_over hS C9 ?_
      by_cases c2 : (0 + 1 + if isC ws (0 + 1) wrkT then 1 else 0) = ws.length
      · have e : transF ws = some ⟨4, [], []⟩ := by unfold transF; rw [if_neg n1, if_neg c3, if_pos (show tr3 ws from ⟨c1, c2⟩)]
        have hz := C9.cz.z
        rw [e, optV_some]
        simp +contextual (disch := first | (simp only [fr]; done) | omega | (simp only [Knx]; omega) | (apply Nat.le_antisymm <;> simp only [Knx] <;> omega) | fail) only [wpy, fD, reduceLE, reduceLT, reduceLeDiff, UInt8.reduceToNat, ↓reduceIte, reduceEqDiff, reduceAdd, reduceCtorEq, reduceToNat, Tryd.f54, c2, hz, e0, e2]
        exact ⟨C9.cz.done _, rfl⟩
      · simp +contextual (disch := first | (simp only [fr]; done) | omega | (simp only [Knx]; omega) | (apply Nat.le_antisymm <;> simp only [Knx] <;> omega) | fail) only [wpy, fD, reduceLE, reduceLT, reduceLeDiff, UInt8.reduceToNat, ↓reduceIte, reduceEqDiff, reduceAdd, reduceCtorEq, reduceToNat, Tryd.f54, c2, e0, e2]
        exact ⟨C9.cz, fun q => c2 q.2⟩
    · simp +contextual (disch := first | (simp only [fr]; done) | omega | (simp only [Knx]; omega) | (apply Nat.le_antisymm <;> simp only [Knx] <;> omega) | fail) only [wpy, fD, reduceLE, reduceLT, reduceLeDiff, UInt8.reduceToNat, ↓reduceIte, reduceEqDiff, reduceAdd, reduceCtorEq, reduceToNat, Tryd.f54, c1, e0, e2]
      exact ⟨C8.cz, fun q => c1 q.1⟩
  rintro env' h10 ⟨e0, e2, C10, n3⟩
  have e : transF ws = none := by unfold transF; rw [if_neg n1, if_neg c3, if_neg n3]
  have hz := C10.z
  rw [e, optV_none]
  simp +contextual (disch := first | (simp only [fr]; done) | omega | (simp only [Knx]; omega) | (apply Nat.le_antisymm <;> simp only [Knx] <;> omega) | fail) only [wpy, fD, reduceLE, reduceLT, reduceLeDiff, UInt8.reduceToNat, ↓reduceIte, reduceEqDiff, reduceAdd, reduceCtorEq, reduceToNat, Tryd.f54, e0, e2, hz]
  exact C10.done _
end
end Go.Proofs.YtkibhdbmamfjcaaDoor
set_option linter.unusedSimpArgs false
set_option linter.unusedVariables false
set_option linter.defProp false
set_option maxRecDepth 10000
namespace Go.Proofs.YtkibhdbmamfjcaaDoor
open Int (reduceLE reduceLT reduceToNat)
open Nat (reduceLeDiff reduceEqDiff reduceAdd)
open Go.Proofs Go.Lx Go.Wx Go.IntWalk
noncomputable section

def creL : List (List Nat) := [[99, 114, 101, 97, 116, 101], [116, 101, 109, 112, 111, 114, 97, 114, 121], [116, 97, 98, 108, 101]]
def ineL : List (List Nat) := [[105, 102], [110, 111, 116], [101, 120, 105, 115, 116, 115]]
def drpL : List (List Nat) := [[100, 114, 111, 112], [116, 101, 109, 112, 111, 114, 97, 114, 121], [116, 97, 98, 108, 101]]
def iexL : List (List Nat) := [[105, 102], [101, 120, 105, 115, 116, 115]]
def getL : List (List Nat) := [[115, 101, 108, 101, 99, 116], [103, 101, 116, 95, 108, 111, 99, 107], [40]]
def relL : List (List Nat) := [[115, 101, 108, 101, 99, 116], [114, 101, 108, 101, 97, 115, 101, 95, 97, 108, 108, 95, 108, 111, 99, 107, 115], [40], [41]]
def tabL : List (List Nat) := [[116, 97, 98, 108, 101, 115], [116, 97, 98, 108, 101]]
def lckT : List Nat := [108, 111, 99, 107]
def unlT : List Nat := [117, 110, 108, 111, 99, 107]
def tmA (ws : List WD) : Nat := 3 + if allC ws 3 ineL then 3 else 0
def tmB (ws : List WD) : Nat := 3 + if allC ws 3 iexL then 2 else 0
def tm1 (ws : List WD) : Prop := allC ws 0 creL ∧ (tableF ws (tmA ws)).isSome = true
def tm2 (ws : List WD) : Prop := allC ws 0 drpL ∧ (tableF ws (tmB ws)).isSome = true ∧ ((tableF ws (tmB ws)).getD ([], tmB ws)).2 = ws.length
def lk1 (ws : List WD) : Prop := allC ws 0 getL ∧ knd ws 3 = 3 ∧ isC ws 4 [44] ∧ knd ws 5 = 4 ∧ isC ws 6 [41] ∧ 7 = ws.length
def lk2 (ws : List WD) : Prop := allC ws 0 relL ∧ 4 = ws.length
def lk4 (ws : List WD) : Prop := isC ws 0 lckT ∧ anyC ws 1 tabL ∧ (tableF ws 2).isSome = true
def lk5 (ws : List WD) : Prop := isC ws 0 unlT ∧ anyC ws 1 tabL ∧ 2 = ws.length
noncomputable instance (ws : List WD) : Decidable (tm1 ws) := Classical.propDecidable _
noncomputable instance (ws : List WD) : Decidable (tm2 ws) := Classical.propDecidable _
noncomputable instance (ws : List WD) : Decidable (lk1 ws) := Classical.propDecidable _
noncomputable instance (ws : List WD) : Decidable (lk2 ws) := Classical.propDecidable _
noncomputable instance (ws : List WD) : Decidable (lk4 ws) := Classical.propDecidable _
noncomputable instance (ws : List WD) : Decidable (lk5 ws) := Classical.propDecidable _
def tempsF (ws : List WD) : Option CL := if tm1 ws then some ⟨8, ((tableF ws (tmA ws)).getD ([], tmA ws)).1, []⟩ else if tm2 ws then some ⟨9, ((tableF ws (tmB ws)).getD ([], tmB ws)).1, []⟩ else none
def locksF (ws : List WD) : Option CL := if lk1 ws then some ⟨10, txt ws 3, []⟩ else if lk2 ws then some ⟨11, [], []⟩ else if lockedP ws then some ⟨13, [], []⟩ else if lk4 ws then some ⟨10, ((tableF ws 2).getD ([], 2)).1, []⟩ else if lk5 ws then some ⟨11, [], []⟩ else none

section
variable {S : Set0} (hS : StdC S)
include hS
theorem temps_spec (lv : V) (ws : List WD) (h : H) (ha : Wds h lv ws) (hw : ws.length < 2 ^ 40) (ht : ∀ i, (txt ws i).length < 2 ^ 40) : Pure S.cfg 60 [lv] h fun v _ => v = ansV (tempsF ws) := by
  refine into Tryd.f60 _ Tryd.func60 (hS.ownC _ (by decide)) rfl rfl (by kernel_rfl) (by kernel_rfl) ?_
  simp +contextual (disch := first | (simp only [fr]; done) | omega | (simp only [Knx]; omega) | (apply Nat.le_antisymm <;> simp only [Knx] <;> omega) | fail) only [wpyr, fD, reduceLE, reduceLT, reduceLeDiff, UInt8.reduceToNat, ↓reduceIte, reduceEqDiff, reduceAdd, reduceCtorEq, reduceToNat, Tryd.f60]
  refine rc_reads hS (CZ.new h) ha fun C1 => ?_
  simp +contextual (disch := first | (simp only [fr]; done) | omega | (simp only [Knx]; omega) | (apply Nat.le_antisymm <;> simp only [Knx] <;> omega) | fail) only [wpyr, fD, reduceLE, reduceLT, reduceLeDiff, UInt8.reduceToNat, ↓reduceIte, reduceEqDiff, reduceAdd, reduceCtorEq, reduceToNat, Tryd.f60]
  refine rc_all hS C1 hw creL (goodTs (by decide)) (by decide) (by decide) 9 rfl fun h2 C2 => ?_
  simp +contextual (disch := first | (simp only [fr]; done) | omega | (simp only [Knx]; omega) | (apply Nat.le_antisymm <;> simp only [Knx] <;> omega) | fail) only [wpyr, fD, reduceLE, reduceLT, reduceLeDiff, UInt8.reduceToNat, ↓reduceIte, reduceEqDiff, reduceAdd, reduceCtorEq, reduceToNat, Tryd.f60]
  refine run_cut (fun env' h' => env' 0 = lv ∧ env' 2 = .ptr h.nx 0 ∧ CZ h h' ∧ ¬ tm1 ws) ?_ ?_
  · by_cases c1 : allC ws 0 creL
    · rw [if_pos c1] at C2
      have C2 : RC _ _ _ _ _ 3 := C2
      simp +contextual (disch := first | (simp only [fr]; done) | omega | (simp only [Knx]; omega) | (apply Nat.le_antisymm <;> simp only [Knx] <;> omega) | fail) only [wpy, fD, reduceLE, reduceLT, reduceLeDiff, UInt8.reduceToNat, ↓reduceIte, reduceEqDiff, reduceAdd, reduceCtorEq, reduceToNat, Tryd.f60, c1]
      refine rc_all hS C2 hw ineL (goodTs (by decide)) (by decide) (by decide) 9 rfl fun h3 C3 => ?_
      have C3 : RC _ _ _ _ _ (tmA ws) := C3
      simp +contextual (disch := first | (simp only [fr]; done) | omega | (simp only [Knx]; omega) | (apply Nat.le_antisymm <;> simp only [Knx] <;> omega) | fail) only [wpy, fD, reduceLE, reduceLT, reduceLeDiff, UInt8.reduceToNat, ↓reduceIte, reduceEqDiff, reduceAdd, reduceCtorEq, reduceToNat, Tryd.f60]
      refine rc_table hS C3 hw ht fun h4 C4 => ?_
      by_cases c2 : (tableF ws (tmA ws)).isSome = true
      · have c2' := c2
        have e : tempsF ws = some ⟨8, ((tableF ws (tmA ws)).getD ([], tmA ws)).1, []⟩ := by unfold tempsF; rw [if_pos (show tm1 ws from ⟨c1, c2⟩)]
        have hz := C4.cz.z
        rw [e, optV_some]
        simp +contextual (disch := first | (simp only [fr]; done) | omega | (simp only [Knx]; omega) | (apply Nat.le_antisymm <;> simp only [Knx] <;> omega) | fail) only [wpy, fD, reduceLE, reduceLT, reduceLeDiff, UInt8.reduceToNat, ↓reduceIte, reduceEqDiff, reduceAdd, reduceCtorEq, reduceToNat, Tryd.f60, c2', hz]
        exact ⟨C4.cz.done _, rfl⟩
      · have c2' := c2
        simp +contextual (disch := first | (simp only [fr]; done) | omega | (simp only [Knx]; omega) | (apply Nat.le_antisymm <;> simp only [Knx] <;> omega) | fail) only [wpy, fD, reduceLE, reduceLT, reduceLeDiff, UInt8.reduceToNat, ↓reduceIte, reduceEqDiff, reduceAdd, reduceCtorEq, reduceToNat, Tryd.f60, c2']
        exact ⟨C4.cz, fun q => c2 q.2⟩
    · simp +contextual (disch := first | (simp only [fr]; done) | omega | (simp only [Knx]; omega) | (apply Nat.le_antisymm <;> simp only [Knx] <;> omega) | fail) only [wpy, fD, reduceLE, reduceLT, reduceLeDiff, UInt8.reduceToNat, ↓reduceIte, reduceEqDiff, reduceAdd, reduceCtorEq, reduceToNat, Tryd.f60, c1]
      exact ⟨C2.cz, fun q => c1 q.1⟩
  rintro env' h3 ⟨e0, e2, C3, n1⟩
  simp +contextual (disch := first | (simp only [fr]; done) | omega | (simp only [Knx]; omega) | (apply Nat.le_antisymm <;> simp only [Knx] <;> omega) | fail) only [wpyr, fD, reduceLE, reduceLT, reduceLeDiff, UInt8.reduceToNat, ↓reduceIte, reduceEqDiff, reduceAdd, reduceCtorEq, reduceToNat, Tryd.f60, e0, e2]
  refine rc_reads hS C3 ha fun C4 => ?_
  simp +contextual (disch := first | (simp only [fr]; done) | omega | (simp only [Knx]; omega) | (apply Nat.le_antisymm <;> simp only [Knx] <;> omega) | fail) only [wpyr, fD, reduceLE, reduceLT, reduceLeDiff, UInt8.reduceToNat, ↓reduceIte, reduceEqDiff, reduceAdd, reduceCtorEq, reduceToNat, Tryd.f60, e0, e2]
  refine rc_all hS C4 hw drpL (goodTs (by decide)) (by decide) (by decide) 9 rfl fun h5 C5 => ?_
  simp +contextual (disch := first | (simp only [fr]; done) | omega | (simp only [Knx]; omega) | (apply Nat.le_antisymm <;> simp only [Knx] <;> omega) | fail) only [wpyr, fD, reduceLE, reduceLT, reduceLeDiff, UInt8.reduceToNat, ↓reduceIte, reduceEqDiff, reduceAdd, reduceCtorEq, reduceToNat, Tryd.f60, e0, e2]
  refine run_cut (fun env' h' => env' 0 = lv ∧ env' 2 = .ptr h.nx 0 ∧ CZ h h' ∧ ¬ tm2 ws) ?_ ?_
  · by_cases c1 : allC ws 0 drpL
    · rw [if_pos c1] at C5
      have C5 : RC _ _ _ _ _ 3 := C5
      simp +contextual (disch := first | (simp only [fr]; done) | omega | (simp only [Knx]; omega) | (apply Nat.le_antisymm <;> simp only [Knx] <;> omega) | fail) only [wpy, fD, reduceLE, reduceLT, reduceLeDiff, UInt8.reduceToNat, ↓reduceIte, reduceEqDiff, reduceAdd, reduceCtorEq, reduceToNat, Tryd.f60, c1, e0, e2]
      refine rc_all hS C5 hw iexL (goodTs (by decide)) (by decide) (by decide) 9 rfl fun h6 C6 => ?_
      have C6 : RC _ _ _ _ _ (tmB ws) := C6
      simp +contextual (disch := first | (simp only [fr]; done) | omega | (simp only [Knx]; omega) | (apply Nat.le_antisymm <;> simp only [Knx] <;> omega) | fail) only [wpy, fD, reduceLE, reduceLT, reduceLeDiff, UInt8.reduceToNat, ↓reduceIte, reduceEqDiff, reduceAdd, reduceCtorEq, reduceToNat, Tryd.f60, e0, e2]
      refine rc_table hS C6 hw ht fun h7 C7 => ?_
      by_cases c2 : (tableF ws (tmB ws)).isSome = true
      · have c2' := c2
        simp +contextual (disch := first | (simp only [fr]; done) | omega | (simp only [Knx]; omega) | (apply Nat.le_antisymm <;> simp only [Knx] <;> omega) | fail) only [wpy, fD, reduceLE, reduceLT, reduceLeDiff, UInt8.reduceToNat, ↓reduceIte, reduceEqDiff, reduceAdd, reduceCtorEq, reduceToNat, Tryd.f60, c2', e0, e2]
        refine rc_over hS C7 ?_
        by_cases c3 : ((tableF ws (tmB ws)).getD ([], tmB ws)).2 = ws.length
        · have c3' := c3
          have e : tempsF ws = some ⟨9, ((tableF ws (tmB ws)).getD ([], tmB ws)).1, []⟩ := by unfold tempsF; rw [if_neg n1, if_pos (show tm2 ws from ⟨c1, c2, c3⟩)]
          have hz := C7.cz.z
          rw [e, optV_some]
          simp +contextual (disch := first | (simp only [fr]; done) | omega | (simp only [Knx]; omega) | (apply Nat.le_antisymm <;> simp only [Knx] <;> omega) | fail) only [wpy, fD, reduceLE, reduceLT, reduceLeDiff, UInt8.reduceToNat, ↓reduceIte, reduceEqDiff, reduceAdd, reduceCtorEq, reduceToNat, Tryd.f60, c3', hz, e0, e2]
          exact ⟨C7.cz.done _, rfl⟩
        · have c3' := c3
          simp +contextual (disch := first | (simp only [fr]; done) | omega | (simp only [Knx]; omega) | (apply Nat.le_antisymm <;> simp only [Knx] <;> omega) | fail) only [wpy, fD, reduceLE, reduceLT, reduceLeDiff, UInt8.reduceToNat, ↓reduceIte, reduceEqDiff, reduceAdd, reduceCtorEq, reduceToNat, Tryd.f60, c3', e0, e2]
          exact ⟨C7.cz, fun q => c3 q.2.2⟩
      · have c2' := c2
        simp +contextual (disch := first | (simp only [fr]; done) | omega | (simp only [Knx]; omega) | (apply Nat.le_antisymm <;> simp only [Knx] <;> omega) | fail) only [wpy, fD, reduceLE, reduceLT, reduceLeDiff, UInt8.reduceToNat, ↓reduceIte, reduceEqDiff, reduceAdd, reduceCtorEq, reduceToNat, Tryd.f60, c2', e0, e2]
        exact ⟨C7.cz, fun q => c2 q.2.1⟩
    · simp +contextual (disch := first | (simp only [fr]; done) | omega | (simp only [Knx]; omega) | (apply Nat.le_antisymm <;> simp only [Knx] <;> omega) | fail) only [wpy, fD, reduceLE, reduceLT, reduceLeDiff, UInt8.reduceToNat, ↓reduceIte, reduceEqDiff, reduceAdd, reduceCtorEq, reduceToNat, Tryd.f60, c1, e0, e2]
      exact ⟨C5.cz, fun q => c1 q.1⟩
  rintro env' h10 ⟨e0, e2, C10, n3⟩
  have e : tempsF ws = none := by unfold tempsF; rw [if_neg n1, if_neg n3]
  have hz := C10.z
  rw [e, optV_none]
  simp +contextual (disch := first | (simp only [fr]; done) | omega | (simp only [Knx]; omega) | (apply Nat.le_antisymm <;> simp only [Knx] <;> omega) | fail) only [wpy, fD, reduceLE, reduceLT, reduceLeDiff, UInt8.reduceToNat, ↓reduceIte, reduceEqDiff, reduceAdd, reduceCtorEq, reduceToNat, Tryd.f60, e0, e2, hz]
  exact C10.done _
end
section
variable {S : Set0} (hS : StdE S)
include hS
theorem locks_spec (lv : V) (ws : List WD) (h : H) (ha : Wds h lv ws) (hw : ws.length < 2 ^ 40) (ht : ∀ i, (txt ws i).length < 2 ^ 40) : Pure S.cfg 53 [lv] h fun v _ => v = ansV (locksF ws) := by
  refine into Tryd.f53 _ Tryd.func53 (hS.ownC _ (by decide)) rfl rfl (by kernel_rfl) (by kernel_rfl) ?_
  simp +contextual (disch := first | (simp only [fr]; done) | omega | (simp only [Knx]; omega) | (apply Nat.le_antisymm <;> simp only [Knx] <;> omega) | fail) only [wpyr, fD, reduceLE, reduceLT, reduceLeDiff, UInt8.reduceToNat, ↓reduceIte, reduceEqDiff, reduceAdd, reduceCtorEq, reduceToNat, Tryd.f53]
  refine rc_reads hS.toStdC (CZ.new h) ha fun C1 => ?_
  simp +contextual (disch := first | (simp only [fr]; done) | omega | (simp only [Knx]; omega) | (apply Nat.le_antisymm <;> simp only [Knx] <;> omega) | fail) only [wpyr, fD, reduceLE, reduceLT, reduceLeDiff, UInt8.reduceToNat, ↓reduceIte, reduceEqDiff, reduceAdd, reduceCtorEq, reduceToNat, Tryd.f53]
  refine rc_all hS.toStdC C1 hw getL (goodTs (by decide)) (by decide) (by decide) 9 rfl fun h2 C2 => ?_
  simp +contextual (disch := first | (simp only [fr]; done) | omega | (simp only [Knx]; omega) | (apply Nat.le_antisymm <;> simp only [Knx] <;> omega) | fail) only [wpyr, fD, reduceLE, reduceLT, reduceLeDiff, UInt8.reduceToNat, ↓reduceIte, reduceEqDiff, reduceAdd, reduceCtorEq, reduceToNat, Tryd.f53]
  refine run_cut (fun env' h' => env' 0 = lv ∧ env' 2 = .ptr h.nx 0 ∧ CZ h h' ∧ ¬ lk1 ws) ?_ ?_
  · by_cases c1 : allC ws 0 getL
    · rw [if_pos c1] at C2
      have C2 : RC _ _ _ _ _ 3 := C2
      simp +contextual (disch := first | (simp only [fr]; done) | omega | (simp only [Knx]; omega) | (apply Nat.le_antisymm <;> simp only [Knx] <;> omega) | fail) only [wpy, fD, reduceLE, reduceLT, reduceLeDiff, UInt8.reduceToNat, ↓reduceIte, reduceEqDiff, reduceAdd, reduceCtorEq, reduceToNat, Tryd.f53, c1]
      refine rc_kind hS.toStdC C2 hw 3 (by decide) fun h3 C3 => ?_
      by_cases c2 : knd ws 3 = 3
      · have c2' := c2
        rw [if_pos c2'] at C3
        have C3 : RC _ _ _ _ _ 4 := C3
        simp +contextual (disch := first | (simp only [fr]; done) | omega | (simp only [Knx]; omega) | (apply Nat.le_antisymm <;> simp only [Knx] <;> omega) | fail) only [wpy, fD, reduceLE, reduceLT, reduceLeDiff, UInt8.reduceToNat, ↓reduceIte, reduceEqDiff, reduceAdd, reduceCtorEq, reduceToNat, Tryd.f53, c2']
        refine rc_is hS.toStdC C3 hw [44] (by1 44 (by decide)) fun h4 C4 => ?_
        by_cases c3 : isC ws 4 [44]
        · have c3' := c3
          rw [if_pos c3'] at C4
          have C4 : RC _ _ _ _ _ 5 := C4
          simp +contextual (disch := first | (simp only [fr]; done) | omega | (simp only [Knx]; omega) | (apply Nat.le_antisymm <;> simp only [Knx] <;> omega) | fail) only [wpy, fD, reduceLE, reduceLT, reduceLeDiff, UInt8.reduceToNat, ↓reduceIte, reduceEqDiff, reduceAdd, reduceCtorEq, reduceToNat, Tryd.f53, c3']
          refine rc_kind hS.toStdC C4 hw 4 (by decide) fun h5 C5 => ?_
          by_cases c4 : knd ws 5 = 4
          · have c4' := c4
            rw [if_pos c4'] at C5
            have C5 : RC _ _ _ _ _ 6 := C5
            simp +contextual (disch := first | (simp only [fr]; done) | omega | (simp only [Knx]; omega) | (apply Nat.le_antisymm <;> simp only [Knx] <;> omega) | fail) only [wpy, fD, reduceLE, reduceLT, reduceLeDiff, UInt8.reduceToNat, ↓reduceIte, reduceEqDiff, reduceAdd, reduceCtorEq, reduceToNat, Tryd.f53, c4']
            refine rc_is hS.toStdC C5 hw [41] (by1 41 (by decide)) fun h6 C6 => ?_
            by_cases c5 : isC ws 6 [41]
            · have c5' := c5
              rw [if_pos c5'] at C6
              have C6 : RC _ _ _ _ _ 7 := C6
              simp +contextual (disch := first | (simp only [fr]; done) | omega | (simp only [Knx]; omega) | (apply Nat.le_antisymm <;> simp only [Knx] <;> omega) | fail) only [wpy, fD, reduceLE, reduceLT, reduceLeDiff, UInt8.reduceToNat, ↓reduceIte, reduceEqDiff, reduceAdd, reduceCtorEq, reduceToNat, Tryd.f53, c5']
              refine rc_over hS.toStdC C6 ?_
              by_cases c6 : 7 = ws.length
              · have c6' := eq_true c6
                have e : locksF ws = some ⟨10, txt ws 3, []⟩ := by unfold locksF; rw [if_pos (show lk1 ws from ⟨c1, c2, c3, c4, c5, c6⟩)]
                have hz := C6.cz.z
                rw [e, optV_some]
                simp +contextual (disch := first | (simp only [fr]; done) | omega | (simp only [Knx]; omega) | (apply Nat.le_antisymm <;> simp only [Knx] <;> omega) | fail) only [wpy, fD, reduceLE, reduceLT, reduceLeDiff, UInt8.reduceToNat, ↓reduceIte, reduceEqDiff, reduceAdd, reduceCtorEq, reduceToNat, Tryd.f53, c6', hz]
                exact ⟨C6.cz.done _, rfl⟩
              · have c6' := c6
                simp +contextual (disch := first | (simp only [fr]; done) | omega | (simp only [Knx]; omega) | (apply Nat.le_antisymm <;> simp only [Knx] <;> omega) | fail) only [wpy, fD, reduceLE, reduceLT, reduceLeDiff, UInt8.reduceToNat, ↓reduceIte, reduceEqDiff, reduceAdd, reduceCtorEq, reduceToNat, Tryd.f53, c6']
                exact ⟨C6.cz, fun q => c6 q.2.2.2.2.2⟩
            · have c5' := c5
              simp +contextual (disch := first | (simp only [fr]; done) | omega | (simp only [Knx]; omega) | (apply Nat.le_antisymm <;> simp only [Knx] <;> omega) | fail) only [wpy, fD, reduceLE, reduceLT, reduceLeDiff, UInt8.reduceToNat, ↓reduceIte, reduceEqDiff, reduceAdd, reduceCtorEq, reduceToNat, Tryd.f53, c5']
              exact ⟨C6.cz, fun q => c5 q.2.2.2.2.1⟩
          · have c4' := c4
            simp +contextual (disch := first | (simp only [fr]; done) | omega | (simp only [Knx]; omega) | (apply Nat.le_antisymm <;> simp only [Knx] <;> omega) | fail) only [wpy, fD, reduceLE, reduceLT, reduceLeDiff, UInt8.reduceToNat, ↓reduceIte, reduceEqDiff, reduceAdd, reduceCtorEq, reduceToNat, Tryd.f53, c4']
            exact ⟨C5.cz, fun q => c4 q.2.2.2.1⟩
        · have c3' := c3
          simp +contextual (disch := first | (simp only [fr]; done) | omega | (simp only [Knx]; omega) | (apply Nat.le_antisymm <;> simp only [Knx] <;> omega) | fail) only [wpy, fD, reduceLE, reduceLT, reduceLeDiff, UInt8.reduceToNat, ↓reduceIte, reduceEqDiff, reduceAdd, reduceCtorEq, reduceToNat, Tryd.f53, c3']
          exact ⟨C4.cz, fun q => c3 q.2.2.1⟩
      · have c2' := c2
        simp +contextual (disch := first | (simp only [fr]; done) | omega | (simp only [Knx]; omega) | (apply Nat.le_antisymm <;> simp only [Knx] <;> omega) | fail) only [wpy, fD, reduceLE, reduceLT, reduceLeDiff, UInt8.reduceToNat, ↓reduceIte, reduceEqDiff, reduceAdd, reduceCtorEq, reduceToNat, Tryd.f53, c2']
        exact ⟨C3.cz, fun q => c2 q.2.1⟩
    · simp +contextual (disch := first | (simp only [fr]; done) | omega | (simp only [Knx]; omega) | (apply Nat.le_antisymm <;> simp only [Knx] <;> omega) | fail) only [wpy, fD, reduceLE, reduceLT, reduceLeDiff, UInt8.reduceToNat, ↓reduceIte, reduceEqDiff, reduceAdd, reduceCtorEq, reduceToNat, Tryd.f53, c1]
      exact ⟨C2.cz, fun q => c1 q.1⟩
  rintro env' h3 ⟨e0, e2, C3, n1⟩
  rw [run_seq]
  refine run_cut (fun env' h' => env' 0 = lv ∧ env' 2 = .ptr h.nx 0 ∧ ∃ r, env' 4 = .ptr r 0 ∧ RC h h' r lv ws 0) ?_ ?_
  · simp +contextual (disch := first | (simp only [fr]; done) | omega | (simp only [Knx]; omega) | (apply Nat.le_antisymm <;> simp only [Knx] <;> omega) | fail) only [wpy, fD, reduceLE, reduceLT, reduceLeDiff, UInt8.reduceToNat, ↓reduceIte, reduceEqDiff, reduceAdd, reduceCtorEq, reduceToNat, Tryd.f53, e0, e2]
    refine rc_reads hS.toStdC C3 ha fun C4 => ?_
    simp +contextual (disch := first | (simp only [fr]; done) | omega | (simp only [Knx]; omega) | (apply Nat.le_antisymm <;> simp only [Knx] <;> omega) | fail) only [wpy, fD, reduceLE, reduceLT, reduceLeDiff, UInt8.reduceToNat, ↓reduceIte, reduceEqDiff, reduceAdd, reduceCtorEq, reduceToNat, Tryd.f53, e0, e2]
    exact ⟨_, rfl, C4⟩
  rintro env' h4 ⟨e0, e2, r, e4, C4⟩
  rw [run_seq]
  refine run_cut (fun env' h' => env' 0 = lv ∧ env' 2 = .ptr h.nx 0 ∧ CZ h h' ∧ ¬ lk2 ws) ?_ ?_
  · simp +contextual (disch := first | (simp only [fr]; done) | omega | (simp only [Knx]; omega) | (apply Nat.le_antisymm <;> simp only [Knx] <;> omega) | fail) only [wpy, fD, reduceLE, reduceLT, reduceLeDiff, UInt8.reduceToNat, ↓reduceIte, reduceEqDiff, reduceAdd, reduceCtorEq, reduceToNat, Tryd.f53, e0, e2, e4]
    refine rc_all hS.toStdC C4 hw relL (goodTs (by decide)) (by decide) (by decide) 9 rfl fun h5 C5 => ?_
    by_cases c1 : allC ws 0 relL
    · rw [if_pos c1] at C5
      have C5 : RC _ _ _ _ _ 4 := C5
      simp +contextual (disch := first | (simp only [fr]; done) | omega | (simp only [Knx]; omega) | (apply Nat.le_antisymm <;> simp only [Knx] <;> omega) | fail) only [wpy, fD, reduceLE, reduceLT, reduceLeDiff, UInt8.reduceToNat, ↓reduceIte, reduceEqDiff, reduceAdd, reduceCtorEq, reduceToNat, Tryd.f53, c1, e0, e2, e4]
      refine rc_over hS.toStdC C5 ?_
      by_cases c2 : 4 = ws.length
      · have e : locksF ws = some ⟨11, [], []⟩ := by unfold locksF; rw [if_neg n1, if_pos (show lk2 ws from ⟨c1, c2⟩)]
        have hz := C5.cz.z
        rw [e, optV_some]
        simp +contextual (disch := first | (simp only [fr]; done) | omega | (simp only [Knx]; omega) | (apply Nat.le_antisymm <;> simp only [Knx] <;> omega) | fail) only [wpy, fD, reduceLE, reduceLT, reduceLeDiff, UInt8.reduceToNat, ↓reduceIte, reduceEqDiff, reduceAdd, reduceCtorEq, reduceToNat, Tryd.f53, eq_true c2, hz, e0, e2]
        exact ⟨C5.cz.done _, rfl⟩
      · simp +contextual (disch := first | (simp only [fr]; done) | omega | (simp only [Knx]; omega) | (apply Nat.le_antisymm <;> simp only [Knx] <;> omega) | fail) only [wpy, fD, reduceLE, reduceLT, reduceLeDiff, UInt8.reduceToNat, ↓reduceIte, reduceEqDiff, reduceAdd, reduceCtorEq, reduceToNat, Tryd.f53, c2, e0, e2]
        exact ⟨C5.cz, fun q => c2 q.2⟩
    · simp +contextual (disch := first | (simp only [fr]; done) | omega | (simp only [Knx]; omega) | (apply Nat.le_antisymm <;> simp only [Knx] <;> omega) | fail) only [wpy, fD, reduceLE, reduceLT, reduceLeDiff, UInt8.reduceToNat, ↓reduceIte, reduceEqDiff, reduceAdd, reduceCtorEq, reduceToNat, Tryd.f53, c1, e0, e2, e4]
      exact ⟨C5.cz, fun q => c1 q.1⟩
  rintro env' h5 ⟨e0, e2, C5, n2⟩
  rw [run_seq]
  refine run_cut (fun env' h' => env' 0 = lv ∧ env' 2 = .ptr h.nx 0 ∧ CZ h h' ∧ ¬ lockedP ws) ?_ ?_
  · simp +contextual (disch := first | (simp only [fr]; done) | omega | (simp only [Knx]; omega) | (apply Nat.le_antisymm <;> simp only [Knx] <;> omega) | fail) only [wpy, fD, reduceLE, reduceLT, reduceLeDiff, UInt8.reduceToNat, ↓reduceIte, reduceEqDiff, reduceAdd, reduceCtorEq, reduceToNat, Tryd.f53, e0, e2]
    refine callF_pure (locked_spec hS lv ws h5 (ha.ext C5.ext) hw) ?_
    rintro v h6 hx6 rfl
    have C6 := C5.more hx6
    by_cases c1 : lockedP ws
    · have e : locksF ws = some ⟨13, [], []⟩ := by unfold locksF; rw [if_neg n1, if_neg n2, if_pos c1]
      have hz := C6.z
      rw [e, optV_some]
      simp +contextual (disch := first | (simp only [fr]; done) | omega | (simp only [Knx]; omega) | (apply Nat.le_antisymm <;> simp only [Knx] <;> omega) | fail) only [wpy, fD, reduceLE, reduceLT, reduceLeDiff, UInt8.reduceToNat, ↓reduceIte, reduceEqDiff, reduceAdd, reduceCtorEq, reduceToNat, Tryd.f53, c1, hz, e0, e2]
      exact ⟨C6.done _, rfl⟩
    · simp +contextual (disch := first | (simp only [fr]; done) | omega | (simp only [Knx]; omega) | (apply Nat.le_antisymm <;> simp only [Knx] <;> omega) | fail) only [wpy, fD, reduceLE, reduceLT, reduceLeDiff, UInt8.reduceToNat, ↓reduceIte, reduceEqDiff, reduceAdd, reduceCtorEq, reduceToNat, Tryd.f53, c1, e0, e2]
      exact C6
  rintro env' h6 ⟨e0, e2, C6, n3⟩
  rw [run_seq]
  refine run_cut (fun env' h' => env' 0 = lv ∧ env' 2 = .ptr h.nx 0 ∧ ∃ r, env' 4 = .ptr r 0 ∧ RC h h' r lv ws 0) ?_ ?_
  · simp +contextual (disch := first | (simp only [fr]; done) | omega | (simp only [Knx]; omega) | (apply Nat.le_antisymm <;> simp only [Knx] <;> omega) | fail) only [wpy, fD, reduceLE, reduceLT, reduceLeDiff, UInt8.reduceToNat, ↓reduceIte, reduceEqDiff, reduceAdd, reduceCtorEq, reduceToNat, Tryd.f53, e0, e2]
    refine rc_reads hS.toStdC C6 ha fun C7 => ?_
    simp +contextual (disch := first | (simp only [fr]; done) | omega | (simp only [Knx]; omega) | (apply Nat.le_antisymm <;> simp only [Knx] <;> omega) | fail) only [wpy, fD, reduceLE, reduceLT, reduceLeDiff, UInt8.reduceToNat, ↓reduceIte, reduceEqDiff, reduceAdd, reduceCtorEq, reduceToNat, Tryd.f53, e0, e2]
    exact ⟨_, rfl, C7⟩
  rintro env' h7 ⟨e0, e2, r, e4, C7⟩
  rw [run_seq]
  refine run_cut (fun env' h' => env' 0 = lv ∧ env' 2 = .ptr h.nx 0 ∧ CZ h h' ∧ ¬ lk4 ws) ?_ ?_
  · simp +contextual (disch := first | (simp only [fr]; done) | omega | (simp only [Knx]; omega) | (apply Nat.le_antisymm <;> simp only [Knx] <;> omega) | fail) only [wpy, fD, reduceLE, reduceLT, reduceLeDiff, UInt8.reduceToNat, ↓reduceIte, reduceEqDiff, reduceAdd, reduceCtorEq, reduceToNat, Tryd.f53, e0, e2, e4]
    refine rc_is hS.toStdC C7 hw lckT ⟨by decide, (goodTs (l := [lckT]) (by decide) _ (by simp)).2⟩ fun h8 C8 => ?_
    by_cases c1 : isC ws 0 lckT
    · rw [if_pos c1] at C8
      have C8 : RC _ _ _ _ _ 1 := C8
      simp +contextual (disch := first | (simp only [fr]; done) | omega | (simp only [Knx]; omega) | (apply Nat.le_antisymm <;> simp only [Knx] <;> omega) | fail) only [wpy, fD, reduceLE, reduceLT, reduceLeDiff, UInt8.reduceToNat, ↓reduceIte, reduceEqDiff, reduceAdd, reduceCtorEq, reduceToNat, Tryd.f53, c1, e0, e2, e4]
      refine rc_either hS.toStdC C8 hw tabL (goodTs (by decide)) (by decide) 9 rfl fun h9 C9 => ?_
      by_cases c2 : anyC ws 1 tabL
      · rw [if_pos c2] at C9
        have C9 : RC _ _ _ _ _ 2 := C9
        simp +contextual (disch := first | (simp only [fr]; done) | omega | (simp only [Knx]; omega) | (apply Nat.le_antisymm <;> simp only [Knx] <;> omega) | fail) only [wpy, fD, reduceLE, reduceLT, reduceLeDiff, UInt8.reduceToNat, ↓reduceIte, reduceEqDiff, reduceAdd, reduceCtorEq, reduceToNat, Tryd.f53, c2, e0, e2, e4]
        refine rc_table hS.toStdC C9 hw ht fun h10 C10 => ?_
        by_cases c3 : (tableF ws 2).isSome = true
        · have e : locksF ws = some ⟨10, ((tableF ws 2).getD ([], 2)).1, []⟩ := by unfold locksF; rw [if_neg n1, if_neg n2, if_neg n3, if_pos (show lk4 ws from ⟨c1, c2, c3⟩)]
          have hz := C10.cz.z
          rw [e, optV_some]
          simp +contextual (disch := first | (simp only [fr]; done) | omega | (simp only [Knx]; omega) | (apply Nat.le_antisymm <;> simp only [Knx] <;> omega) | fail) only [wpy, fD, reduceLE, reduceLT, reduceLeDiff, UInt8.reduceToNat, ↓reduceIte, reduceEqDiff, reduceAdd, reduceCtorEq, reduceToNat, Tryd.f53, c3, hz, e0, e2]
          exact ⟨C10.cz.done _, rfl⟩
        · simp +contextual (disch := first | (simp only [fr]; done) | omega | (simp only [Knx]; omega) | (apply Nat.le_antisymm <;> simp only [Knx] <;> omega) | fail) only [wpy, fD, reduceLE, reduceLT, reduceLeDiff, UInt8.reduceToNat, ↓reduceIte, reduceEqDiff, reduceAdd, reduceCtorEq, reduceToNat, Tryd.f53, c3, e0, e2]
          exact ⟨C10.cz, fun q => c3 q.2.2⟩
      · simp +contextual (disch := first | (simp only [fr]; done) | omega | (simp only [Knx]; omega) | (apply Nat.le_antisymm <;> simp only [Knx] <;> omega) | fail) only [wpy, fD, reduceLE, reduceLT, reduceLeDiff, UInt8.reduceToNat, ↓reduceIte, reduceEqDiff, reduceAdd, reduceCtorEq, reduceToNat, Tryd.f53, c2, e0, e2, e4]
        exact ⟨C9.cz, fun q => c2 q.2.1⟩
    · simp +contextual (disch := first | (simp only [fr]; done) | omega | (simp only [Knx]; omega) | (apply Nat.le_antisymm <;> simp only [Knx] <;> omega) | fail) only [wpy, fD, reduceLE, reduceLT, reduceLeDiff, UInt8.reduceToNat, ↓reduceIte, reduceEqDiff, reduceAdd, reduceCtorEq, reduceToNat, Tryd.f53, c1, e0, e2, e4]
      exact ⟨C8.cz, fun q => c1 q.1⟩
  rintro env' h8 ⟨e0, e2, C8, n4⟩
  rw [run_seq]
  refine run_cut (fun env' h' => env' 0 = lv ∧ env' 2 = .ptr h.nx 0 ∧ ∃ r, env' 4 = .ptr r 0 ∧ RC h h' r lv ws 0) ?_ ?_
  · simp +contextual (disch := first | (simp only [fr]; done) | omega | (simp only [Knx]; omega) | (apply Nat.le_antisymm <;> simp only [Knx] <;> omega) | fail) only [wpy, fD, reduceLE, reduceLT, reduceLeDiff, UInt8.reduceToNat, ↓reduceIte, reduceEqDiff, reduceAdd, reduceCtorEq, reduceToNat, Tryd.f53, e0, e2]
    refine rc_reads hS.toStdC C8 ha fun C7 => ?_
    simp +contextual (disch := first | (simp only [fr]; done) | omega | (simp only [Knx]; omega) | (apply Nat.le_antisymm <;> simp only [Knx] <;> omega) | fail) only [wpy, fD, reduceLE, reduceLT, reduceLeDiff, UInt8.reduceToNat, ↓reduceIte, reduceEqDiff, reduceAdd, reduceCtorEq, reduceToNat, Tryd.f53, e0, e2]
    exact ⟨_, rfl, C7⟩
  rintro env' h9 ⟨e0, e2, r, e4, C9⟩
  rw [run_seq]
  refine run_cut (fun env' h' => env' 0 = lv ∧ env' 2 = .ptr h.nx 0 ∧ CZ h h' ∧ ¬ lk5 ws) ?_ ?_
  · simp +contextual (disch := first | (simp only [fr]; done) | omega | (simp only [Knx]; omega) | (apply Nat.le_antisymm <;> simp only [Knx] <;> omega) | fail) only [wpy, fD, reduceLE, reduceLT, reduceLeDiff, UInt8.reduceToNat, ↓reduceIte, reduceEqDiff, reduceAdd, reduceCtorEq, reduceToNat, Tryd.f53, e0, e2, e4]
    refine rc_is hS.toStdC C9 hw unlT ⟨by decide, (goodTs (l := [unlT]) (by decide) _ (by simp)).2⟩ fun h10 C10 => ?_
    by_cases c1 : isC ws 0 unlT
    · rw [if_pos c1] at C10
      have C10 : RC _ _ _ _ _ 1 := C10
      simp +contextual (disch := first | (simp only [fr]; done) | omega | (simp only [Knx]; omega) | (apply Nat.le_antisymm <;> simp only [Knx] <;> omega) | fail) only [wpy, fD, reduceLE, reduceLT, reduceLeDiff, UInt8.reduceToNat, ↓reduceIte, reduceEqDiff, reduceAdd, reduceCtorEq, reduceToNat, Tryd.f53, c1, e0, e2, e4]
      refine rc_either hS.toStdC C10 hw tabL (goodTs (by decide)) (by decide) 9 rfl fun h11 C11 => ?_
      by_cases c2 : anyC ws 1 tabL
      · rw [if_pos c2] at C11
        have C11 : RC _ _ _ _ _ 2 := C11
        simp +contextual (disch := first | (simp only [fr]; done) | omega | (simp only [Knx]; omega) | (apply Nat.le_antisymm <;> simp only [Knx] <;> omega) | fail) only [wpy, fD, reduceLE, reduceLT, reduceLeDiff, UInt8.reduceToNat, ↓reduceIte, reduceEqDiff, reduceAdd, reduceCtorEq, reduceToNat, Tryd.f53, c2, e0, e2, e4]
        refine rc_over hS.toStdC C11 ?_
        by_cases c3 : 2 = ws.length
        · have e : locksF ws = some ⟨11, [], []⟩ := by unfold locksF; rw [if_neg n1, if_neg n2, if_neg n3, if_neg n4, if_pos (show lk5 ws from ⟨c1, c2, c3⟩)]
          have hz := C11.cz.z
          rw [e, optV_some]
          simp +contextual (disch := first | (simp only [fr]; done) | omega | (simp only [Knx]; omega) | (apply Nat.le_antisymm <;> simp only [Knx] <;> omega) | fail) only [wpy, fD, reduceLE, reduceLT, reduceLeDiff, UInt8.reduceToNat, ↓reduceIte, reduceEqDiff, reduceAdd, reduceCtorEq, reduceToNat, Tryd.f53, eq_true c3, hz, e0, e2]
          exact ⟨C11.cz.done _, rfl⟩
        · simp +contextual (disch := first | (simp only [fr]; done) | omega | (simp only [Knx]; omega) | (apply Nat.le_antisymm <;> simp only [Knx] <;> omega) | fail) only [wpy, fD, reduceLE, reduceLT, reduceLeDiff, UInt8.reduceToNat, ↓reduceIte, reduceEqDiff, reduceAdd, reduceCtorEq, reduceToNat, Tryd.f53, c3, e0, e2]
          exact ⟨C11.cz, fun q => c3 q.2.2⟩
      · simp +contextual (disch := first | (simp only [fr]; done) | omega | (simp only [Knx]; omega) | (apply Nat.le_antisymm <;> simp only [Knx] <;> omega) | fail) only [wpy, fD, reduceLE, reduceLT, reduceLeDiff, UInt8.reduceToNat, ↓reduceIte, reduceEqDiff, reduceAdd, reduceCtorEq, reduceToNat, Tryd.f53, c2, e0, e2, e4]
        exact ⟨C11.cz, fun q => c2 q.2.1⟩
    · simp +contextual (disch := first | (simp only [fr]; done) | omega | (simp only [Knx]; omega) | (apply Nat.le_antisymm <;> simp only [Knx] <;> omega) | fail) only [wpy, fD, reduceLE, reduceLT, reduceLeDiff, UInt8.reduceToNat, ↓reduceIte, reduceEqDiff, reduceAdd, reduceCtorEq, reduceToNat, Tryd.f53, c1, e0, e2, e4]
      exact ⟨C10.cz, fun q => c1 q.1⟩
  rintro env' h10 ⟨e0, e2, C10, n5⟩
  have e : locksF ws = none := by unfold locksF; rw [if_neg n1, if_neg n2, if_neg n3, if_neg n4, if_neg n5]
  have hz := C10.z
  rw [e, optV_none]
  simp +contextual (disch := first | (simp only [fr]; done) | omega | (simp only [Knx]; omega) | (apply Nat.le_antisymm <;> simp only [Knx] <;> omega) | fail) only [wpy, fD, reduceLE, reduceLT, reduceLeDiff, UInt8.reduceToNat, ↓reduceIte, reduceEqDiff, reduceAdd, reduceCtorEq, reduceToNat, Tryd.f53, e0, e2, hz]
  exact C10.done _
end
end
end Go.Proofs.YtkibhdbmamfjcaaDoor
set_option linter.unusedSimpArgs false
set_option linter.unusedVariables false
set_option linter.defProp false
set_option maxRecDepth 10000
namespace Go.Proofs.YtkibhdbmamfjcaaDoor
open Int (reduceLE reduceLT reduceToNat)
open Nat (reduceLeDiff reduceEqDiff reduceAdd)
open Go.Proofs Go.Lx Go.Wx Go.IntWalk
noncomputable section

def setT : List Nat := [115, 101, 116]
def namT : List Nat := [110, 97, 109, 101, 115]
def sesT : List Nat := [115, 101, 115, 115, 105, 111, 110, 46]
def locT : List Nat := [108, 111, 99, 97, 108, 46]
def sesL : List (List Nat) := [[115, 101, 115, 115, 105, 111, 110], [108, 111, 99, 97, 108]]
def sysT (ws : List WD) : List Nat := if trimS (txt ws 1) sesT = txt ws 1 then trimS (trimS (txt ws 1) sesT) locT else trimS (txt ws 1) sesT
def vp (ws : List WD) : Nat := 1 + if anyC ws 1 sesL then 1 else 0
def nmP (ws : List WD) : Prop := isC ws 1 namT ∧ (litF ws 2).isSome = true ∧ ((litF ws 2).getD ([], 2)).2 = ws.length
noncomputable instance (ws : List WD) : Decidable (nmP ws) := Classical.propDecidable _
def sysA (n : List Nat) (o : Option (List Nat)) : Option CL := match o with
  | some v => if n ≠ [] ∧ idxNats n 46 < 0 then some (setF n v) else none
  | none => none
def varF (ws : List WD) : Option CL := if isC ws 0 setT then (if knd ws 1 = 6 then (assF ws 2).map (fun v => ⟨7, txt ws 1, v⟩) else if knd ws 1 = 7 then sysA (sysT ws) (assF ws 2) else if nmP ws then some ⟨5, namT, ((litF ws 2).getD ([], 2)).1⟩ else if nameP ws (vp ws) then (assF ws (vp ws + 1)).map (fun v => setF (txt ws (vp ws)) v) else none) else none
theorem trimS_len (s p : List Nat) : (trimS s p).length ≤ s.length := by
  unfold trimS
  split
  · rw [List.length_drop]; omega
  · exact Nat.le_refl _
theorem trimS_bytes {s : List Nat} (p : List Nat) (h : Bytes s) : Bytes (trimS s p) := by
  unfold trimS
  split
  · exact h.drop _
  · exact h
theorem sysT_len (ws : List WD) : (sysT ws).length ≤ (txt ws 1).length := by
  unfold sysT
  split
  · exact Nat.le_trans (trimS_len _ _) (trimS_len _ _)
  · exact trimS_len _ _
theorem sysT_bytes {ws : List WD} (h : Bytes (txt ws 1)) : Bytes (sysT ws) := by
  unfold sysT
  split
  · exact trimS_bytes _ (trimS_bytes _ h)
  · exact trimS_bytes _ h
theorem RC.back {h0 h : H} {r : Nat} {lv : V} {ws : List WD} {a : Nat} (C : RC h0 h r lv ws a) (a' : Nat) : RC h0 (h.put r (.cells [lv, .int .i64 a'] 115 false)) r lv ws a' := C.step ((But.refl _ _).put _) (C.rd.step ((But.refl _ _).put _) (put_eq rfl))

variable {S : Set0} (hS : StdE S)
include hS
theorem var_spec (lv : V) (ws : List WD) (h : H) (ha : Wds h lv ws) (hw : ws.length < 2 ^ 40) (ht : ∀ i, (txt ws i).length < 2 ^ 40) (hb : ∀ i, Bytes (txt ws i)) : Pure S.cfg 55 [lv] h fun v _ => v = ansV (varF ws) := by
  refine into Tryd.f55 _ Tryd.func55 (hS.ownC _ (by decide)) rfl rfl (by kernel_rfl) (by kernel_rfl) ?_
  simp +contextual (disch := first | (simp only [fr]; done) | omega | (simp only [Knx]; omega) | (apply Nat.le_antisymm <;> simp only [Knx] <;> omega) | fail) only [wpyr, fD, reduceLE, reduceLT, reduceLeDiff, UInt8.reduceToNat, ↓reduceIte, reduceEqDiff, reduceAdd, reduceCtorEq, reduceToNat, Tryd.f55]
  refine rc_reads hS.toStdC (CZ.new h) ha fun C1 => ?_
  simp +contextual (disch := first | (simp only [fr]; done) | omega | (simp only [Knx]; omega) | (apply Nat.le_antisymm <;> simp only [Knx] <;> omega) | fail) only [wpyr, fD, reduceLE, reduceLT, reduceLeDiff, UInt8.reduceToNat, ↓reduceIte, reduceEqDiff, reduceAdd, reduceCtorEq, reduceToNat, Tryd.f55]
  refine rc_is hS.toStdC C1 hw setT ⟨by decide, (goodTs (l := [setT]) (by decide) _ (by simp)).2⟩ fun h2 C2 => ?_
  by_cases c0 : ¬ isC ws 0 setT
  · have c1 := c0
    have e : varF ws = none := by unfold varF; rw [if_neg c1]
    have hz := C2.cz.z
    rw [e, optV_none]
    simp +contextual (disch := first | (simp only [fr]; done) | omega | (simp only [Knx]; omega) | (apply Nat.le_antisymm <;> simp only [Knx] <;> omega) | fail) only [wpy, fD, reduceLE, reduceLT, reduceLeDiff, UInt8.reduceToNat, ↓reduceIte, reduceEqDiff, reduceAdd, reduceCtorEq, reduceToNat, Tryd.f55, c1, hz]
    exact C2.cz.done _
  have c1 := Classical.not_not.1 c0
  rw [if_pos c1] at C2
  have C2 : RC _ _ _ _ _ 1 := C2
  have hg2 := C2.rd.get
  simp +contextual (disch := first | (simp only [fr]; done) | omega | (simp only [Knx]; omega) | (apply Nat.le_antisymm <;> simp only [Knx] <;> omega) | fail) only [wpyr, fD, reduceLE, reduceLT, reduceLeDiff, UInt8.reduceToNat, ↓reduceIte, reduceEqDiff, reduceAdd, reduceCtorEq, reduceToNat, Tryd.f55, c1]
  refine run_cut (fun env' h' => env' 0 = lv ∧ env' 2 = .ptr h.nx 0 ∧ ∃ r, env' 4 = .ptr r 0 ∧ RC h h' r lv ws 1) ?_ ?_
  · simp +contextual (disch := first | (simp only [fr]; done) | omega | (simp only [Knx]; omega) | (apply Nat.le_antisymm <;> simp only [Knx] <;> omega) | fail) only [wpy, fD, reduceLE, reduceLT, reduceLeDiff, UInt8.reduceToNat, ↓reduceIte, reduceEqDiff, reduceAdd, reduceCtorEq, reduceToNat, Tryd.f55, c1]
    exact ⟨_, rfl, C2⟩
  rintro env' h3 ⟨e0, e2, r, e4, C3⟩
  have hg3 := C3.rd.get
  simp +contextual (disch := first | (simp only [fr]; done) | omega | (simp only [Knx]; omega) | (apply Nat.le_antisymm <;> simp only [Knx] <;> omega) | fail) only [wpy, fD, reduceLE, reduceLT, reduceLeDiff, UInt8.reduceToNat, ↓reduceIte, reduceEqDiff, reduceAdd, reduceCtorEq, reduceToNat, Tryd.f55, e0, e2, e4, hg3]
  refine rc_kind hS.toStdC C3 hw 6 (by decide) fun h4 C4 => ?_
  by_cases k6 : knd ws 1 = 6
  · rw [if_pos k6] at C4
    have C4 : RC _ _ _ _ _ 2 := C4
    simp +contextual (disch := first | (simp only [fr]; done) | omega | (simp only [Knx]; omega) | (apply Nat.le_antisymm <;> simp only [Knx] <;> omega) | fail) only [wpy, fD, reduceLE, reduceLT, reduceLeDiff, UInt8.reduceToNat, ↓reduceIte, reduceEqDiff, reduceAdd, reduceCtorEq, reduceToNat, Tryd.f55, e0, e2, e4, k6]
    refine rc_assigned hS.toStdC C4 hw ht fun h5 x C5 hx => ?_
    have hz := C5.z
    cases ho : assF ws 2 with
    | none =>
      have e : varF ws = none := by unfold varF; rw [if_pos c1, if_pos k6, ho]; rfl
      rw [e, optV_none]
      simp +contextual (disch := first | (simp only [fr]; done) | omega | (simp only [Knx]; omega) | (apply Nat.le_antisymm <;> simp only [Knx] <;> omega) | fail) only [wpy, fD, reduceLE, reduceLT, reduceLeDiff, UInt8.reduceToNat, ↓reduceIte, reduceEqDiff, reduceAdd, reduceCtorEq, reduceToNat, Tryd.f55, e0, e2, e4, hz, ho, Option.isSome_none, Bool.false_eq_true]
      exact C5.done _
    | some t =>
      obtain rfl := hx t ho
      have e : varF ws = some ⟨7, txt ws 1, x⟩ := by unfold varF; rw [if_pos c1, if_pos k6, ho]; rfl
      rw [e, optV_some]
      simp +contextual (disch := first | (simp only [fr]; done) | omega | (simp only [Knx]; omega) | (apply Nat.le_antisymm <;> simp only [Knx] <;> omega) | fail) only [wpy, fD, reduceLE, reduceLT, reduceLeDiff, UInt8.reduceToNat, ↓reduceIte, reduceEqDiff, reduceAdd, reduceCtorEq, reduceToNat, Tryd.f55, e0, e2, e4, hz, ho, Option.isSome_some]
      exact ⟨C5.done _, rfl⟩
  rw [if_neg k6] at C4
  have C4 : RC _ _ _ _ _ 1 := C4
  simp +contextual (disch := first | (simp only [fr]; done) | omega | (simp only [Knx]; omega) | (apply Nat.le_antisymm <;> simp only [Knx] <;> omega) | fail) only [wpy, fD, reduceLE, reduceLT, reduceLeDiff, UInt8.reduceToNat, ↓reduceIte, reduceEqDiff, reduceAdd, reduceCtorEq, reduceToNat, Tryd.f55, e0, e2, e4, k6]
  refine rc_kind hS.toStdC C4 hw 7 (by decide) fun h5 C5 => ?_
  by_cases k7 : knd ws 1 = 7
  · rw [if_pos k7] at C5
    have C5 : RC _ _ _ _ _ 2 := C5
    simp +contextual (disch := first | (simp only [fr]; done) | omega | (simp only [Knx]; omega) | (apply Nat.le_antisymm <;> simp only [Knx] <;> omega) | fail) only [wpyr, fD, reduceLE, reduceLT, reduceLeDiff, UInt8.reduceToNat, ↓reduceIte, reduceEqDiff, reduceAdd, reduceCtorEq, reduceToNat, Tryd.f55, e0, e2, e4, k7]
    rw [run_cond]
    simp +contextual (disch := first | (simp only [fr]; done) | omega | (simp only [Knx]; omega) | (apply Nat.le_antisymm <;> simp only [Knx] <;> omega) | fail) only [wpyr, fD, reduceLE, reduceLT, reduceLeDiff, UInt8.reduceToNat, ↓reduceIte, reduceEqDiff, reduceAdd, reduceCtorEq, reduceToNat, Tryd.f55, e0, e2, e4, k7]
    refine callF_exact (trim_spec hS.toStdC _ sesT _) ?_
    have hg5 := C5.rd.get
    have hlt : 1 < ws.length := kind_lt k7 (by decide)
    obtain ⟨b, o, mc, c, e, fl, rfl, hbn, hgb, w0, w1⟩ := C5.rd.wds.get hlt
    rw [← wordAt_lt hlt] at w1
    have hW : (wordAt ws 1).cells = [.int .i64 (knd ws 1), .str (txt ws 1), .int .i64 (wordAt ws 1).at_] := rfl
    rw [hW] at w1
    have w2 : c[o + 1 * 3 + 1]? = some (.str (txt ws 1)) := by
      have h1 := congrArg (fun l : List V => l[1]?) w1
      simpa [List.getElem?_take, List.getElem?_drop] using h1
    simp +contextual (disch := first | (simp only [fr]; done) | omega | (simp only [Knx]; omega) | (apply Nat.le_antisymm <;> simp only [Knx] <;> omega) | fail) only [wpyr, fD, reduceLE, reduceLT, reduceLeDiff, UInt8.reduceToNat, ↓reduceIte, reduceEqDiff, reduceAdd, reduceCtorEq, reduceToNat, Tryd.f55, e0, e2, e4, k7, hg5, hgb, w2, hlt]
    refine run_cut (fun env' h' => env' 2 = .ptr h.nx 0 ∧ env' 4 = .ptr r 0 ∧ env' 10 = .str (sysT ws) ∧ RC h h' r (.slice b o ws.length mc) ws 2) ?_ ?_
    · by_cases q : trimS (txt ws 1) sesT = txt ws 1
      · have es : sysT ws = trimS (trimS (txt ws 1) sesT) locT := if_pos q
        rw [es]
        simp +contextual (disch := first | (simp only [fr]; done) | omega | (simp only [Knx]; omega) | (apply Nat.le_antisymm <;> simp only [Knx] <;> omega) | fail) only [wpy, fD, reduceLE, reduceLT, reduceLeDiff, UInt8.reduceToNat, ↓reduceIte, reduceEqDiff, reduceAdd, reduceCtorEq, reduceToNat, Tryd.f55, e0, e2, e4, eq_true q]
        refine callF_exact (trim_spec hS.toStdC _ locT _) ?_
        simp +contextual (disch := first | (simp only [fr]; done) | omega | (simp only [Knx]; omega) | (apply Nat.le_antisymm <;> simp only [Knx] <;> omega) | fail) only [wpy, fD, reduceLE, reduceLT, reduceLeDiff, UInt8.reduceToNat, ↓reduceIte, reduceEqDiff, reduceAdd, reduceCtorEq, reduceToNat, Tryd.f55, e0, e2, e4]
        exact C5
      · have es : sysT ws = trimS (txt ws 1) sesT := if_neg q
        rw [es]
        simp +contextual (disch := first | (simp only [fr]; done) | omega | (simp only [Knx]; omega) | (apply Nat.le_antisymm <;> simp only [Knx] <;> omega) | fail) only [wpy, fD, reduceLE, reduceLT, reduceLeDiff, UInt8.reduceToNat, ↓reduceIte, reduceEqDiff, reduceAdd, reduceCtorEq, reduceToNat, Tryd.f55, e0, e2, e4, eq_false q]
        exact C5
    rintro env' h6 ⟨e2, e4, e10, C6⟩
    simp +contextual (disch := first | (simp only [fr]; done) | omega | (simp only [Knx]; omega) | (apply Nat.le_antisymm <;> simp only [Knx] <;> omega) | fail) only [wpyr, fD, reduceLE, reduceLT, reduceLeDiff, UInt8.reduceToNat, ↓reduceIte, reduceEqDiff, reduceAdd, reduceCtorEq, reduceToNat, Tryd.f55, e2, e4, e10]
    refine rc_assigned hS.toStdC C6 hw ht fun h7 x C7 hx => ?_
    have hz := C7.z
    have eV : varF ws = sysA (sysT ws) (assF ws 2) := by unfold varF; rw [if_pos c1, if_neg k6, if_pos k7]
    rw [eV]
    cases ho : assF ws 2 with
    | none =>
      rw [show sysA (sysT ws) none = none from rfl, optV_none]
      simp +contextual (disch := first | (simp only [fr]; done) | omega | (simp only [Knx]; omega) | (apply Nat.le_antisymm <;> simp only [Knx] <;> omega) | fail) only [wpy, fD, reduceLE, reduceLT, reduceLeDiff, UInt8.reduceToNat, ↓reduceIte, reduceEqDiff, reduceAdd, reduceCtorEq, reduceToNat, Tryd.f55, e2, e4, e10, hz, ho, Option.isSome_none, Bool.false_eq_true]
      exact C7.done _
    | some t =>
      obtain rfl := hx t ho
      by_cases q1 : sysT ws = []
      · rw [show sysA (sysT ws) (some x) = none from if_neg fun q => q.1 q1, optV_none]
        simp +contextual (disch := first | (simp only [fr]; done) | omega | (simp only [Knx]; omega) | (apply Nat.le_antisymm <;> simp only [Knx] <;> omega) | fail) only [wpy, fD, reduceLE, reduceLT, reduceLeDiff, UInt8.reduceToNat, ↓reduceIte, reduceEqDiff, reduceAdd, reduceCtorEq, reduceToNat, Tryd.f55, e2, e4, e10, hz, ho, Option.isSome_some, q1]
        exact C7.done _
      · simp +contextual (disch := first | (simp only [fr]; done) | omega | (simp only [Knx]; omega) | (apply Nat.le_antisymm <;> simp only [Knx] <;> omega) | fail) only [wpy, fD, reduceLE, reduceLT, reduceLeDiff, UInt8.reduceToNat, ↓reduceIte, reduceEqDiff, reduceAdd, reduceCtorEq, reduceToNat, Tryd.f55, e2, e4, e10, ho, Option.isSome_some, q1]
        refine callF_exact (indexByte_spec hS.toStdF.toStd (sysT ws) 46 (by decide) _) ?_
        by_cases q2 : idxNats (sysT ws) 46 < 0
        · rw [show sysA (sysT ws) (some x) = some (setF (sysT ws) x) from if_pos ⟨q1, q2⟩, optV_some]
          simp +contextual (disch := first | (simp only [fr]; done) | omega | (simp only [Knx]; omega) | (apply Nat.le_antisymm <;> simp only [Knx] <;> omega) | fail) only [wpy, fD, reduceLE, reduceLT, reduceLeDiff, UInt8.reduceToNat, ↓reduceIte, reduceEqDiff, reduceAdd, reduceCtorEq, reduceToNat, Tryd.f55, e2, e4, e10, q2]
          refine callF_pure (settable_spec hS (sysT ws) x _ (by have := sysT_len ws; have := ht 1; omega) (sysT_bytes (hb 1))) ?_
          rintro v h8 hx8 rfl
          have C8 := C7.more hx8
          have hz8 := C8.z
          simp +contextual (disch := first | (simp only [fr]; done) | omega | (simp only [Knx]; omega) | (apply Nat.le_antisymm <;> simp only [Knx] <;> omega) | fail) only [wpy, fD, reduceLE, reduceLT, reduceLeDiff, UInt8.reduceToNat, ↓reduceIte, reduceEqDiff, reduceAdd, reduceCtorEq, reduceToNat, Tryd.f55, e2, e4, e10, hz8, CL.v]
          exact C8.done _
        · rw [show sysA (sysT ws) (some x) = none from if_neg fun q => q2 q.2, optV_none]
          simp +contextual (disch := first | (simp only [fr]; done) | omega | (simp only [Knx]; omega) | (apply Nat.le_antisymm <;> simp only [Knx] <;> omega) | fail) only [wpy, fD, reduceLE, reduceLT, reduceLeDiff, UInt8.reduceToNat, ↓reduceIte, reduceEqDiff, reduceAdd, reduceCtorEq, reduceToNat, Tryd.f55, e2, e4, e10, hz, q2]
          exact C7.done _
  rw [if_neg k7] at C5
  have C5 : RC _ _ _ _ _ 1 := C5
  simp +contextual (disch := first | (simp only [fr]; done) | omega | (simp only [Knx]; omega) | (apply Nat.le_antisymm <;> simp only [Knx] <;> omega) | fail) only [wpy, fD, reduceLE, reduceLT, reduceLeDiff, UInt8.reduceToNat, ↓reduceIte, reduceEqDiff, reduceAdd, reduceCtorEq, reduceToNat, Tryd.f55, e0, e2, e4, k7]
  refine rc_is hS.toStdC C5 hw namT ⟨by decide, (goodTs (l := [namT]) (by decide) _ (by simp)).2⟩ fun h6 C6 => ?_
  simp +contextual (disch := first | (simp only [fr]; done) | omega | (simp only [Knx]; omega) | (apply Nat.le_antisymm <;> simp only [Knx] <;> omega) | fail) only [wpyr, fD, reduceLE, reduceLT, reduceLeDiff, UInt8.reduceToNat, ↓reduceIte, reduceEqDiff, reduceAdd, reduceCtorEq, reduceToNat, Tryd.f55, e0, e2, e4]
  refine run_cut (fun env' h' => env' 2 = .ptr h.nx 0 ∧ env' 4 = .ptr r 0 ∧ RC h h' r lv ws 1 ∧ ¬ nmP ws) ?_ ?_
  · by_cases n1 : isC ws 1 namT
    · rw [if_pos n1] at C6
      have C6 : RC _ _ _ _ _ 2 := C6
      simp +contextual (disch := first | (simp only [fr]; done) | omega | (simp only [Knx]; omega) | (apply Nat.le_antisymm <;> simp only [Knx] <;> omega) | fail) only [wpy, fD, reduceLE, reduceLT, reduceLeDiff, UInt8.reduceToNat, ↓reduceIte, reduceEqDiff, reduceAdd, reduceCtorEq, reduceToNat, Tryd.f55, e0, e2, e4, n1]
      refine rc_literal hS.toStdC C6 hw ht fun h7 C7 => ?_
      have hg7 := C7.rd.get
      by_cases n2 : (litF ws 2).isSome = true
      · simp +contextual (disch := first | (simp only [fr]; done) | omega | (simp only [Knx]; omega) | (apply Nat.le_antisymm <;> simp only [Knx] <;> omega) | fail) only [wpy, fD, reduceLE, reduceLT, reduceLeDiff, UInt8.reduceToNat, ↓reduceIte, reduceEqDiff, reduceAdd, reduceCtorEq, reduceToNat, Tryd.f55, e0, e2, e4, n2]
        refine rc_over hS.toStdC C7 ?_
        by_cases n3 : ((litF ws 2).getD ([], 2)).2 = ws.length
        · have e : varF ws = some ⟨5, namT, ((litF ws 2).getD ([], 2)).1⟩ := by unfold varF; rw [if_pos c1, if_neg k6, if_neg k7, if_pos (show nmP ws from ⟨n1, n2, n3⟩)]
          have hz := C7.cz.z
          rw [e, optV_some]
          simp +contextual (disch := first | (simp only [fr]; done) | omega | (simp only [Knx]; omega) | (apply Nat.le_antisymm <;> simp only [Knx] <;> omega) | fail) only [wpy, fD, reduceLE, reduceLT, reduceLeDiff, UInt8.reduceToNat, ↓reduceIte, reduceEqDiff, reduceAdd, reduceCtorEq, reduceToNat, Tryd.f55, e0, e2, e4, eq_true n3, hz]
          exact ⟨C7.cz.done _, rfl⟩
        · simp +contextual (disch := first | (simp only [fr]; done) | omega | (simp only [Knx]; omega) | (apply Nat.le_antisymm <;> simp only [Knx] <;> omega) | fail) only [wpy, fD, reduceLE, reduceLT, reduceLeDiff, UInt8.reduceToNat, ↓reduceIte, reduceEqDiff, reduceAdd, reduceCtorEq, reduceToNat, Tryd.f55, e0, e2, e4, n3, hg7]
          exact ⟨.inr (Nat.le_of_lt C7.own), C7.back 1, fun q => n3 q.2.2⟩
      · simp +contextual (disch := first | (simp only [fr]; done) | omega | (simp only [Knx]; omega) | (apply Nat.le_antisymm <;> simp only [Knx] <;> omega) | fail) only [wpy, fD, reduceLE, reduceLT, reduceLeDiff, UInt8.reduceToNat, ↓reduceIte, reduceEqDiff, reduceAdd, reduceCtorEq, reduceToNat, Tryd.f55, e0, e2, e4, n2, hg7]
        exact ⟨.inr (Nat.le_of_lt C7.own), C7.back 1, fun q => n2 q.2.1⟩
    · rw [if_neg n1] at C6
      have C6 : RC _ _ _ _ _ 1 := C6
      simp +contextual (disch := first | (simp only [fr]; done) | omega | (simp only [Knx]; omega) | (apply Nat.le_antisymm <;> simp only [Knx] <;> omega) | fail) only [wpy, fD, reduceLE, reduceLT, reduceLeDiff, UInt8.reduceToNat, ↓reduceIte, reduceEqDiff, reduceAdd, reduceCtorEq, reduceToNat, Tryd.f55, e0, e2, e4, n1]
      exact ⟨C6, fun q => n1 q.1⟩
  rintro env' h8 ⟨e2, e4, C8, nn⟩
  simp +contextual (disch := first | (simp only [fr]; done) | omega | (simp only [Knx]; omega) | (apply Nat.le_antisymm <;> simp only [Knx] <;> omega) | fail) only [wpy, fD, reduceLE, reduceLT, reduceLeDiff, UInt8.reduceToNat, ↓reduceIte, reduceEqDiff, reduceAdd, reduceCtorEq, reduceToNat, Tryd.f55, e2, e4]
  refine rc_either hS.toStdC C8 hw sesL (goodTs (by decide)) (by decide) 9 rfl fun h9 C9 => ?_
  have C9 : RC _ _ _ _ _ (vp ws) := C9
  simp +contextual (disch := first | (simp only [fr]; done) | omega | (simp only [Knx]; omega) | (apply Nat.le_antisymm <;> simp only [Knx] <;> omega) | fail) only [wpy, fD, reduceLE, reduceLT, reduceLeDiff, UInt8.reduceToNat, ↓reduceIte, reduceEqDiff, reduceAdd, reduceCtorEq, reduceToNat, Tryd.f55, e2, e4]
  refine rc_name hS.toStdC C9 hw fun h10 C10 => ?_
  by_cases v1 : nameP ws (vp ws)
  · rw [if_pos v1] at C10
    have eV : varF ws = (assF ws (vp ws + 1)).map (fun v => setF (txt ws (vp ws)) v) := by unfold varF; rw [if_pos c1, if_neg k6, if_neg k7, if_neg nn, if_pos v1]
    simp +contextual (disch := first | (simp only [fr]; done) | omega | (simp only [Knx]; omega) | (apply Nat.le_antisymm <;> simp only [Knx] <;> omega) | fail) only [wpy, fD, reduceLE, reduceLT, reduceLeDiff, UInt8.reduceToNat, ↓reduceIte, reduceEqDiff, reduceAdd, reduceCtorEq, reduceToNat, Tryd.f55, e2, e4, v1]
    refine rc_assigned hS.toStdC C10 hw ht fun h11 x C11 hx => ?_
    have hz := C11.z
    rw [eV]
    cases ho : assF ws (vp ws + 1) with
    | none =>
      rw [Option.map_none, optV_none]
      simp +contextual (disch := first | (simp only [fr]; done) | omega | (simp only [Knx]; omega) | (apply Nat.le_antisymm <;> simp only [Knx] <;> omega) | fail) only [wpy, fD, reduceLE, reduceLT, reduceLeDiff, UInt8.reduceToNat, ↓reduceIte, reduceEqDiff, reduceAdd, reduceCtorEq, reduceToNat, Tryd.f55, e2, e4, hz, ho, Option.isSome_none, Bool.false_eq_true]
      exact C11.done _
    | some t =>
      obtain rfl := hx t ho
      rw [Option.map_some, optV_some]
      simp +contextual (disch := first | (simp only [fr]; done) | omega | (simp only [Knx]; omega) | (apply Nat.le_antisymm <;> simp only [Knx] <;> omega) | fail) only [wpy, fD, reduceLE, reduceLT, reduceLeDiff, UInt8.reduceToNat, ↓reduceIte, reduceEqDiff, reduceAdd, reduceCtorEq, reduceToNat, Tryd.f55, e2, e4, ho, Option.isSome_some]
      refine callF_pure (settable_spec hS (txt ws (vp ws)) x _ (by have := ht (vp ws); omega) (hb _)) ?_
      rintro v h12 hx12 rfl
      have C12 := C11.more hx12
      have hz12 := C12.z
      simp +contextual (disch := first | (simp only [fr]; done) | omega | (simp only [Knx]; omega) | (apply Nat.le_antisymm <;> simp only [Knx] <;> omega) | fail) only [wpy, fD, reduceLE, reduceLT, reduceLeDiff, UInt8.reduceToNat, ↓reduceIte, reduceEqDiff, reduceAdd, reduceCtorEq, reduceToNat, Tryd.f55, e2, e4, hz12, CL.v]
      exact C12.done _
  · have eV : varF ws = none := by unfold varF; rw [if_pos c1, if_neg k6, if_neg k7, if_neg nn, if_neg v1]
    have hz := C10.cz.z
    rw [eV, optV_none]
    simp +contextual (disch := first | (simp only [fr]; done) | omega | (simp only [Knx]; omega) | (apply Nat.le_antisymm <;> simp only [Knx] <;> omega) | fail) only [wpy, fD, reduceLE, reduceLT, reduceLeDiff, UInt8.reduceToNat, ↓reduceIte, reduceEqDiff, reduceAdd, reduceCtorEq, reduceToNat, Tryd.f55, e2, e4, v1, hz]
    exact C10.cz.done _
end
end Go.Proofs.YtkibhdbmamfjcaaDoor
set_option linter.unusedSimpArgs false
set_option linter.unusedVariables false
set_option linter.defProp false
set_option maxRecDepth 10000
namespace Go.Proofs.YtkibhdbmamfjcaaDoor
open Int (reduceLE reduceLT reduceToNat)
open Nat (reduceLeDiff reduceEqDiff reduceAdd)
open Go.Proofs Go.Lx Go.Wx Go.IntWalk
noncomputable section

def wriL : List (List Nat) := [[105, 110, 115, 101, 114, 116], [117, 112, 100, 97, 116, 101], [100, 101, 108, 101, 116, 101], [114, 101, 112, 108, 97, 99, 101], [99, 114, 101, 97, 116, 101], [100, 114, 111, 112], [97, 108, 116, 101, 114], [116, 114, 117, 110, 99, 97, 116, 101], [114, 101, 110, 97, 109, 101], [103, 114, 97, 110, 116], [114, 101, 118, 111, 107, 101], [97, 110, 97, 108, 121, 122, 101], [111, 112, 116, 105, 109, 105, 122, 101]]
def sgL : List (List Nat) := [[115, 101, 116], [103, 108, 111, 98, 97, 108]]
def selT : List Nat := [115, 101, 108, 101, 99, 116]
def fuL : List (List Nat) := [[102, 111, 114], [117, 112, 100, 97, 116, 101]]
def fsL : List (List Nat) := [[102, 111, 114], [115, 104, 97, 114, 101]]
def lmL : List (List Nat) := [[108, 111, 99, 107], [105, 110], [115, 104, 97, 114, 101], [109, 111, 100, 101]]
def reaL : List (List Nat) := [[115, 101, 108, 101, 99, 116], [115, 104, 111, 119], [101, 120, 112, 108, 97, 105, 110], [100, 101, 115, 99, 114, 105, 98, 101], [100, 101, 115, 99], [116, 97, 98, 108, 101], [118, 97, 108, 117, 101, 115], [119, 105, 116, 104], [115, 97, 118, 101, 112, 111, 105, 110, 116]]
def rw0 : List (List Nat) := [[40], [115, 101, 108, 101, 99, 116]]
def rw1 : List (List Nat) := [[114, 101, 108, 101, 97, 115, 101], [115, 97, 118, 101, 112, 111, 105, 110, 116]]
def rw2 : List (List Nat) := [[114, 111, 108, 108, 98, 97, 99, 107], [116, 111]]
def rw3 : List (List Nat) := [[114, 111, 108, 108, 98, 97, 99, 107], [119, 111, 114, 107], [116, 111]]
def endsP (ws : List WD) (l : List (List Nat)) : Prop := l.length ≤ ws.length ∧ allC ((ws.drop (ws.length - l.length)).take l.length) 0 l
def selP (ws : List WD) : Prop := isC ws 0 selT ∧ (endsP ws fuL ∨ endsP ws fsL ∨ endsP ws lmL)
noncomputable instance (ws : List WD) (l : List (List Nat)) : Decidable (endsP ws l) := Classical.propDecidable _
noncomputable instance (ws : List WD) : Decidable (selP ws) := Classical.propDecidable _
def restF (ws : List WD) : Nat := if allC ws 0 fileL then 12 else if anyC ws 0 wriL then 2 else if allC ws 0 sgL then 2 else if selP ws then 2 else if anyC ws 0 reaL then 1 else if allC ws 0 rw0 ∨ allC ws 0 rw1 ∨ allC ws 0 rw2 ∨ allC ws 0 rw3 then 1 else 13
structure RX (h0 h : H) (r : Nat) (lv : V) (ws : List WD) (a : Nat) : Prop where
  ext : Ext h0 h
  own : h0.nx ≤ r
  rd : Rdr h r lv ws a

variable {S : Set0} (hS : StdC S)
include hS
section
variable {h0 h : H} {r : Nat} {lv : V} {ws : List WD} {a : Nat} {Ok : Nat → Prop} {K : V → H → Fp → Prop}
theorem rx_reads (hx : Ext h0 h) (ha : Wds h0 lv ws) (ho : ∀ k, h0.nx ≤ k → Ok k) (hK : RX h0 (h.push (.cells [lv, .int .i64 0] 115 false)) h.nx lv ws 0 → K (.ptr h.nx 0) (h.push (.cells [lv, .int .i64 0] 115 false)) (.cl h.nx (h.nx + 1) nil1)) : callF S.cfg Ok 56 [lv] h K :=
  callF_pure (reads_spec hS lv ws h (ha.ext hx)) fun v h' hx' ⟨e1, e2⟩ => by subst e1; subst e2; exact hK ⟨hx.trans hx', hx.1, Rdr.new (ha.ext hx)⟩
theorem rx_is (C : RX h0 h r lv ws a) (hw : ws.length < 2 ^ 40) (s : List Nat) (hs : 0 < s.length ∧ Bytes s) (ho : ∀ k, h0.nx ≤ k → Ok k) (hK : ∀ h', RX h0 h' r lv ws (a + if isC ws a s then 1 else 0) → K (bo (isC ws a s)) h' (.cl h.nx h'.nx fun k => k = r)) : callF S.cfg Ok 57 [.ptr r 0, .str s] h K :=
  callF_of (is_rd hS C.rd hw s hs) (fun k q => by subst q; exact ho _ C.own) fun v h' ⟨e, hb, R⟩ => by subst e; exact hK h' ⟨Ext.but C.ext hb C.own, C.own, R⟩
theorem rx_all (C : RX h0 h r lv ws a) (hw : ws.length < 2 ^ 40) (l : List (List Nat)) (hl : ∀ s ∈ l, 0 < s.length ∧ Bytes s) (hll : l.length < 2 ^ 40) (ha : a ≤ 2 ^ 40) (e : TypeId) (he : e = 9) (ho : ∀ k, h0.nx ≤ k → Ok k) (hK : ∀ h', Ext h0 h' → K (bo (allC ws a l)) h' (.cl (h.nx + 1) h'.nx fun k => k = r)) : callF S.cfg Ok 98 [.ptr r 0, .slice h.nx 0 l.length l.length] (h.push (.cells (l.map V.str) e false)) K := by
  subst he
  have C1 := C.rd.ext ((Ext.refl h).push (.cells (l.map V.str) 9 false))
  have hlt := C.rd.lt
  have hX := C.ext.trans ((Ext.refl h).push (.cells (l.map V.str) 9 false))
  exact callF_of (rAll_spec hS r a lv ws l h.nx _ hl hll C1.lt (Nat.lt_succ_self _) (by omega) (push_eq rfl) C1.get C1.wds C1.ne hw ha) (fun k q => by subst q; exact ho _ C.own) fun v h' ⟨e, hb, hg⟩ => by subst e; exact hK h' (Ext.but hX hb C.own)
theorem rx_allO (C : RX h0 h r lv ws a) (hw : ws.length < 2 ^ 40) (l : List (List Nat)) (hl : ∀ s ∈ l, 0 < s.length ∧ Bytes s) (hll : l.length < 2 ^ 40) (ha : a ≤ 2 ^ 40) (b : Nat) (hb : b < h.nx) (hbr : b ≠ r) (hg : h.get b = some (.cells (l.map V.str) 9 false)) (ho : ∀ k, h0.nx ≤ k → Ok k) (hK : ∀ h', Ext h0 h' → K (bo (allC ws a l)) h' (.cl h.nx h'.nx fun k => k = r)) : callF S.cfg Ok 98 [.ptr r 0, .slice b 0 l.length l.length] h K :=
  callF_of (rAll_spec hS r a lv ws l b _ hl hll C.rd.lt hb hbr hg C.rd.get C.rd.wds C.rd.ne hw ha) (fun k q => by subst q; exact ho _ C.own) fun v h' ⟨e, hb, hg⟩ => by subst e; exact hK h' (Ext.but C.ext hb C.own)
theorem rx_either (C : RX h0 h r lv ws a) (hw : ws.length < 2 ^ 40) (l : List (List Nat)) (hl : ∀ s ∈ l, 0 < s.length ∧ Bytes s) (hll : l.length < 2 ^ 40) (e : TypeId) (he : e = 9) (ho : ∀ k, h0.nx ≤ k → Ok k) (hK : ∀ h', Ext h0 h' → K (bo (anyC ws a l)) h' (.cl (h.nx + 1) h'.nx fun k => k = r)) : callF S.cfg Ok 95 [.ptr r 0, .slice h.nx 0 l.length l.length] (h.push (.cells (l.map V.str) e false)) K := by
  subst he
  have C1 := C.rd.ext ((Ext.refl h).push (.cells (l.map V.str) 9 false))
  have hlt := C.rd.lt
  have hX := C.ext.trans ((Ext.refl h).push (.cells (l.map V.str) 9 false))
  exact callF_of (rEither_spec hS r a lv ws l h.nx _ hl hll C1.lt (Nat.lt_succ_self _) (by omega) (push_eq rfl) C1.get C1.wds C1.ne hw) (fun k q => by subst q; exact ho _ C.own) fun v h' ⟨e, hb, hg⟩ => by subst e; exact hK h' (Ext.but hX hb C.own)
end
theorem ends_spec (lv : V) (ws : List WD) (h : H) (ha : Wds h lv ws) (hw : ws.length < 2 ^ 40) (l : List (List Nat)) (hl : ∀ s ∈ l, 0 < s.length ∧ Bytes s) (hl0 : 0 < l.length) (hll : l.length < 2 ^ 40) (b : Nat) (hb : b < h.nx) (hg : h.get b = some (.cells (l.map V.str) 9 false)) : Pure S.cfg 107 [lv, .slice b 0 l.length l.length] h fun v _ => v = bo (endsP ws l) := by
  refine into Tryd.f107 _ Tryd.func107 (hS.ownC _ (by decide)) rfl rfl (by kernel_rfl) (by kernel_rfl) ?_
  have a1 := ha.len
  by_cases hlt : ws.length < l.length
  · have e : ¬ endsP ws l := fun q => by have := q.1; omega
    simp +contextual (disch := first | (simp only [fr]; done) | omega | (simp only [Knx]; omega) | (apply Nat.le_antisymm <;> simp only [Knx] <;> omega) | fail) only [wpy, fD, reduceLE, reduceLT, reduceLeDiff, UInt8.reduceToNat, ↓reduceIte, reduceEqDiff, reduceAdd, reduceCtorEq, reduceToNat, Tryd.f107, a1, hlt, e]
    exact Ext.refl _
  · obtain ⟨bb, o, m, c, fl, rfl, hm, hbb, hgb⟩ := ha.opened (by omega)
    have hsub : IntKind.i64.wrap ((ws.length : Int) - (l.length : Int)) = ((ws.length - l.length : Nat) : Int) := by
      rw [i64_in _ (by omega)]; omega
    simp +contextual (disch := first | (simp only [fr]; done) | omega | (simp only [Knx]; omega) | (apply Nat.le_antisymm <;> simp only [Knx] <;> omega) | fail) only [wpy, fD, reduceLE, reduceLT, reduceLeDiff, UInt8.reduceToNat, ↓reduceIte, reduceEqDiff, reduceAdd, reduceCtorEq, reduceToNat, Tryd.f107, a1, hlt]
    refine slice_row (e := 36) (sz := 3) (b := bb) (o := o) (n := ws.length) (m := m) (l := ws.length - l.length) (hh := ws.length) (mm := m) (by kernel_rfl) C2.sz36 (by simp +contextual (disch := first | (simp only [fr]; done) | omega | (simp only [Knx]; omega) | (apply Nat.le_antisymm <;> simp only [Knx] <;> omega) | fail) only [wpy, fD, reduceLE, reduceLT, reduceLeDiff, UInt8.reduceToNat, ↓reduceIte, reduceEqDiff, reduceAdd, reduceCtorEq, reduceToNat]) (by rw [hgb]; rfl) (fun _ => rfl) ?_ hm ?_
    · simp +contextual (disch := first | (simp only [fr]; done) | omega | (simp only [Knx]; omega) | (apply Nat.le_antisymm <;> simp only [Knx] <;> omega) | fail) only [wpy, fD, reduceLE, reduceLT, reduceLeDiff, UInt8.reduceToNat, ↓reduceIte, reduceEqDiff, reduceAdd, reduceCtorEq, reduceToNat, hsub]
      exact bounds_lo (by omega) hm
    simp +contextual (disch := first | (simp only [fr]; done) | omega | (simp only [Knx]; omega) | (apply Nat.le_antisymm <;> simp only [Knx] <;> omega) | fail) only [wpy, fD, reduceLE, reduceLT, reduceLeDiff, UInt8.reduceToNat, ↓reduceIte, reduceEqDiff, reduceAdd, reduceCtorEq, reduceToNat, Tryd.f107]
    have e1 : ws.length - (ws.length - l.length) = l.length := by omega
    rw [e1]
    have hp := ha.part (ws.length - l.length) l.length (by omega)
    have hpl : ((ws.drop (ws.length - l.length)).take l.length).length = l.length := by rw [List.length_take, List.length_drop]; omega
    refine rx_reads hS (Ext.refl h) hp (fun k q => by rw [fresh_def]; exact .inl q) fun C => ?_
    simp +contextual (disch := first | (simp only [fr]; done) | omega | (simp only [Knx]; omega) | (apply Nat.le_antisymm <;> simp only [Knx] <;> omega) | fail) only [wpy, fD, reduceLE, reduceLT, reduceLeDiff, UInt8.reduceToNat, ↓reduceIte, reduceEqDiff, reduceAdd, reduceCtorEq, reduceToNat, Tryd.f107]
    refine rx_allO hS C (by rw [hpl]; exact hll) l hl hll (by decide) b (Nat.lt_succ_of_lt hb) (by omega) (by rw [push_ne (by omega)]; exact hg) (fun k q => by rw [fresh_def]; exact .inl q) fun h' hx => ?_
    simp +contextual (disch := first | (simp only [fr]; done) | omega | (simp only [Knx]; omega) | (apply Nat.le_antisymm <;> simp only [Knx] <;> omega) | fail) only [wpy, fD, reduceLE, reduceLT, reduceLeDiff, UInt8.reduceToNat, ↓reduceIte, reduceEqDiff, reduceAdd, reduceCtorEq, reduceToNat, Tryd.f107]
    refine ⟨hx, ?_⟩
    unfold endsP
    by_cases q : allC ((ws.drop (ws.length - l.length)).take l.length) 0 l
    · rw [eq_true q, eq_true (show l.length ≤ ws.length ∧ True from ⟨by omega, trivial⟩)]
    · rw [eq_false q, eq_false (show ¬ (l.length ≤ ws.length ∧ False) from fun q => q.2)]
theorem rest_spec (lv : V) (ws : List WD) (h : H) (ha : Wds h lv ws) (hw : ws.length < 2 ^ 40) : Pure S.cfg 61 [lv] h fun v _ => v = .int .i64 (restF ws) := by
  refine into Tryd.f61 _ Tryd.func61 (hS.ownC _ (by decide)) rfl rfl (by kernel_rfl) (by kernel_rfl) ?_
  simp +contextual (disch := first | (simp only [fr]; done) | omega | (simp only [Knx]; omega) | (apply Nat.le_antisymm <;> simp only [Knx] <;> omega) | fail) only [wpy, fD, reduceLE, reduceLT, reduceLeDiff, UInt8.reduceToNat, ↓reduceIte, reduceEqDiff, reduceAdd, reduceCtorEq, reduceToNat, Tryd.f61]
  have ho0 : ∀ k, h.nx ≤ k → fresh h.nx nil1 k := fun k q => by rw [fresh_def]; exact .inl q
  refine rx_reads hS (Ext.refl h) ha ho0 fun C1 => ?_
  have R1 := C1.rd
  have X1 := C1.ext
  generalize hH : h.push (.cells [lv, .int .i64 0] 115 false) = h1 at R1 X1 ⊢
  have hn1 : h1.nx = h.nx + 1 := by rw [← hH]; rfl
  have ho : ∀ k, h1.nx ≤ k → fresh h.nx nil1 k := fun k q => ho0 k (by omega)
  have ha1 := ha.ext X1
  clear C1 hH
  simp +contextual (disch := first | (simp only [fr]; done) | omega | (simp only [Knx]; omega) | (apply Nat.le_antisymm <;> simp only [Knx] <;> omega) | fail) only [wpy, fD, reduceLE, reduceLT, reduceLeDiff, UInt8.reduceToNat, ↓reduceIte, reduceEqDiff, reduceAdd, reduceCtorEq, reduceToNat, Tryd.f61]
  refine callF_pure (file_spec hS lv ws _ ha1 hw) ?_
  rintro v h2 X2 rfl
  by_cases c1 : allC ws 0 fileL
  · have e : restF ws = 12 := by unfold restF; rw [if_pos c1]
    rw [e]
    simp +contextual (disch := first | (simp only [fr]; done) | omega | (simp only [Knx]; omega) | (apply Nat.le_antisymm <;> simp only [Knx] <;> omega) | fail) only [wpy, fD, reduceLE, reduceLT, reduceLeDiff, UInt8.reduceToNat, ↓reduceIte, reduceEqDiff, reduceAdd, reduceCtorEq, reduceToNat, Tryd.f61, c1]
    exact X1.trans X2
  simp +contextual (disch := first | (simp only [fr]; done) | omega | (simp only [Knx]; omega) | (apply Nat.le_antisymm <;> simp only [Knx] <;> omega) | fail) only [wpy, fD, reduceLE, reduceLT, reduceLeDiff, UInt8.reduceToNat, ↓reduceIte, reduceEqDiff, reduceAdd, reduceCtorEq, reduceToNat, Tryd.f61, c1]
  refine rx_reads hS X2 ha1 ho fun C3 => ?_
  simp +contextual (disch := first | (simp only [fr]; done) | omega | (simp only [Knx]; omega) | (apply Nat.le_antisymm <;> simp only [Knx] <;> omega) | fail) only [wpy, fD, reduceLE, reduceLT, reduceLeDiff, UInt8.reduceToNat, ↓reduceIte, reduceEqDiff, reduceAdd, reduceCtorEq, reduceToNat, Tryd.f61]
  refine rx_either hS C3 hw wriL (goodTs (by decide)) (by decide) 9 rfl ho fun h4 X4 => ?_
  by_cases c2 : anyC ws 0 wriL
  · have e : restF ws = 2 := by unfold restF; rw [if_neg c1, if_pos c2]
    rw [e]
    simp +contextual (disch := first | (simp only [fr]; done) | omega | (simp only [Knx]; omega) | (apply Nat.le_antisymm <;> simp only [Knx] <;> omega) | fail) only [wpy, fD, reduceLE, reduceLT, reduceLeDiff, UInt8.reduceToNat, ↓reduceIte, reduceEqDiff, reduceAdd, reduceCtorEq, reduceToNat, Tryd.f61, c2]
    exact X1.trans X4
  simp +contextual (disch := first | (simp only [fr]; done) | omega | (simp only [Knx]; omega) | (apply Nat.le_antisymm <;> simp only [Knx] <;> omega) | fail) only [wpy, fD, reduceLE, reduceLT, reduceLeDiff, UInt8.reduceToNat, ↓reduceIte, reduceEqDiff, reduceAdd, reduceCtorEq, reduceToNat, Tryd.f61, c2]
  refine rx_reads hS X4 ha1 ho fun C5 => ?_
  simp +contextual (disch := first | (simp only [fr]; done) | omega | (simp only [Knx]; omega) | (apply Nat.le_antisymm <;> simp only [Knx] <;> omega) | fail) only [wpy, fD, reduceLE, reduceLT, reduceLeDiff, UInt8.reduceToNat, ↓reduceIte, reduceEqDiff, reduceAdd, reduceCtorEq, reduceToNat, Tryd.f61]
  refine rx_all hS C5 hw sgL (goodTs (by decide)) (by decide) (by decide) 9 rfl ho fun h6 X6 => ?_
  by_cases c3 : allC ws 0 sgL
  · have e : restF ws = 2 := by unfold restF; rw [if_neg c1, if_neg c2, if_pos c3]
    rw [e]
    simp +contextual (disch := first | (simp only [fr]; done) | omega | (simp only [Knx]; omega) | (apply Nat.le_antisymm <;> simp only [Knx] <;> omega) | fail) only [wpy, fD, reduceLE, reduceLT, reduceLeDiff, UInt8.reduceToNat, ↓reduceIte, reduceEqDiff, reduceAdd, reduceCtorEq, reduceToNat, Tryd.f61, c3]
    exact X1.trans X6
  simp +contextual (disch := first | (simp only [fr]; done) | omega | (simp only [Knx]; omega) | (apply Nat.le_antisymm <;> simp only [Knx] <;> omega) | fail) only [wpyr, fD, reduceLE, reduceLT, reduceLeDiff, UInt8.reduceToNat, ↓reduceIte, reduceEqDiff, reduceAdd, reduceCtorEq, reduceToNat, Tryd.f61]
  rw [run_cond]
  show condW (bo (allC ws 0 sgL)) _ _
  rw [condW_bo]
  refine ⟨fun q => absurd q c3, fun _ => ?_⟩
  rw [run_seq]
  refine run_cut (fun env' h' => env' 0 = lv ∧ env' 21 = bo (selP ws) ∧ Ext h h') ?_ ?_
  · have C6 : RX h h6 h.nx lv ws 0 := ⟨X1.trans X6, Nat.le_refl _, R1.ext X6⟩
    simp +contextual (disch := first | (simp only [fr]; done) | omega | (simp only [Knx]; omega) | (apply Nat.le_antisymm <;> simp only [Knx] <;> omega) | fail) only [wpy, fD, reduceLE, reduceLT, reduceLeDiff, UInt8.reduceToNat, ↓reduceIte, reduceEqDiff, reduceAdd, reduceCtorEq, reduceToNat, Tryd.f61]
    refine rx_is hS C6 hw selT ⟨by decide, (goodTs (l := [selT]) (by decide) _ (by simp)).2⟩ ho0 fun h7 C7 => ?_
    have X7 := C7.ext
    by_cases s1 : isC ws 0 selT
    · simp +contextual (disch := first | (simp only [fr]; done) | omega | (simp only [Knx]; omega) | (apply Nat.le_antisymm <;> simp only [Knx] <;> omega) | fail) only [wpy, fD, reduceLE, reduceLT, reduceLeDiff, UInt8.reduceToNat, ↓reduceIte, reduceEqDiff, reduceAdd, reduceCtorEq, reduceToNat, Tryd.f61, s1]
      refine callF_pure (ends_spec hS lv ws _ ((ha.ext X7).ext ((Ext.refl _).push _)) hw fuL (goodTs (by decide)) (by decide) (by decide) h7.nx (Nat.lt_succ_self _) (push_eq rfl)) ?_
      rintro v h8 X8 rfl
      have X8 := X7.trans (((Ext.refl h7).push _).trans X8)
      by_cases s2 : endsP ws fuL
      · simp +contextual (disch := first | (simp only [fr]; done) | omega | (simp only [Knx]; omega) | (apply Nat.le_antisymm <;> simp only [Knx] <;> omega) | fail) only [wpy, fD, reduceLE, reduceLT, reduceLeDiff, UInt8.reduceToNat, ↓reduceIte, reduceEqDiff, reduceAdd, reduceCtorEq, reduceToNat, Tryd.f61, s1, s2]
        exact ⟨by rw [eq_true (show selP ws from ⟨s1, .inl s2⟩)], X8⟩
      · simp +contextual (disch := first | (simp only [fr]; done) | omega | (simp only [Knx]; omega) | (apply Nat.le_antisymm <;> simp only [Knx] <;> omega) | fail) only [wpy, fD, reduceLE, reduceLT, reduceLeDiff, UInt8.reduceToNat, ↓reduceIte, reduceEqDiff, reduceAdd, reduceCtorEq, reduceToNat, Tryd.f61, s1, s2]
        refine callF_pure (ends_spec hS lv ws _ ((ha.ext X8).ext ((Ext.refl _).push _)) hw fsL (goodTs (by decide)) (by decide) (by decide) h8.nx (Nat.lt_succ_self _) (push_eq rfl)) ?_
        rintro v h9 X9 rfl
        have X9 := X8.trans (((Ext.refl h8).push _).trans X9)
        by_cases s3 : endsP ws fsL
        · simp +contextual (disch := first | (simp only [fr]; done) | omega | (simp only [Knx]; omega) | (apply Nat.le_antisymm <;> simp only [Knx] <;> omega) | fail) only [wpy, fD, reduceLE, reduceLT, reduceLeDiff, UInt8.reduceToNat, ↓reduceIte, reduceEqDiff, reduceAdd, reduceCtorEq, reduceToNat, Tryd.f61, s1, s2, s3]
          exact ⟨by rw [eq_true (show selP ws from ⟨s1, .inr (.inl s3)⟩)], X9⟩
        · simp +contextual (disch := first | (simp only [fr]; done) | omega | (simp only [Knx]; omega) | (apply Nat.le_antisymm <;> simp only [Knx] <;> omega) | fail) only [wpy, fD, reduceLE, reduceLT, reduceLeDiff, UInt8.reduceToNat, ↓reduceIte, reduceEqDiff, reduceAdd, reduceCtorEq, reduceToNat, Tryd.f61, s1, s2, s3]
          refine callF_pure (ends_spec hS lv ws _ ((ha.ext X9).ext ((Ext.refl _).push _)) hw lmL (goodTs (by decide)) (by decide) (by decide) h9.nx (Nat.lt_succ_self _) (push_eq rfl)) ?_
          rintro v h10 X10 rfl
          have X10 := X9.trans (((Ext.refl h9).push _).trans X10)
          by_cases s4 : endsP ws lmL
          · simp +contextual (disch := first | (simp only [fr]; done) | omega | (simp only [Knx]; omega) | (apply Nat.le_antisymm <;> simp only [Knx] <;> omega) | fail) only [wpy, fD, reduceLE, reduceLT, reduceLeDiff, UInt8.reduceToNat, ↓reduceIte, reduceEqDiff, reduceAdd, reduceCtorEq, reduceToNat, Tryd.f61, s1, s2, s3, s4]
            exact ⟨by rw [eq_true (show selP ws from ⟨s1, .inr (.inr s4)⟩)], X10⟩
          · simp +contextual (disch := first | (simp only [fr]; done) | omega | (simp only [Knx]; omega) | (apply Nat.le_antisymm <;> simp only [Knx] <;> omega) | fail) only [wpy, fD, reduceLE, reduceLT, reduceLeDiff, UInt8.reduceToNat, ↓reduceIte, reduceEqDiff, reduceAdd, reduceCtorEq, reduceToNat, Tryd.f61, s1, s2, s3, s4]
            exact ⟨by rw [eq_false (show ¬ selP ws from fun q => q.2.elim s2 fun q => q.elim s3 s4)], X10⟩
    · simp +contextual (disch := first | (simp only [fr]; done) | omega | (simp only [Knx]; omega) | (apply Nat.le_antisymm <;> simp only [Knx] <;> omega) | fail) only [wpy, fD, reduceLE, reduceLT, reduceLeDiff, UInt8.reduceToNat, ↓reduceIte, reduceEqDiff, reduceAdd, reduceCtorEq, reduceToNat, Tryd.f61, s1]
      exact ⟨by rw [eq_false (show ¬ selP ws from fun q => s1 q.1)], X7⟩
  rintro env' h7 ⟨e0, e21, X7⟩
  by_cases c4 : selP ws
  · have e : restF ws = 2 := by unfold restF; rw [if_neg c1, if_neg c2, if_neg c3, if_pos c4]
    rw [e]
    simp +contextual (disch := first | (simp only [fr]; done) | omega | (simp only [Knx]; omega) | (apply Nat.le_antisymm <;> simp only [Knx] <;> omega) | fail) only [wpy, fD, reduceLE, reduceLT, reduceLeDiff, UInt8.reduceToNat, ↓reduceIte, reduceEqDiff, reduceAdd, reduceCtorEq, reduceToNat, Tryd.f61, e0, e21, c4]
    exact X7
  simp +contextual (disch := first | (simp only [fr]; done) | omega | (simp only [Knx]; omega) | (apply Nat.le_antisymm <;> simp only [Knx] <;> omega) | fail) only [wpy, fD, reduceLE, reduceLT, reduceLeDiff, UInt8.reduceToNat, ↓reduceIte, reduceEqDiff, reduceAdd, reduceCtorEq, reduceToNat, Tryd.f61, e0, e21, c4]
  refine rx_reads hS X7 ha ho0 fun C8 => ?_
  simp +contextual (disch := first | (simp only [fr]; done) | omega | (simp only [Knx]; omega) | (apply Nat.le_antisymm <;> simp only [Knx] <;> omega) | fail) only [wpy, fD, reduceLE, reduceLT, reduceLeDiff, UInt8.reduceToNat, ↓reduceIte, reduceEqDiff, reduceAdd, reduceCtorEq, reduceToNat, Tryd.f61, e0]
  refine rx_either hS C8 hw reaL (goodTs (by decide)) (by decide) 9 rfl ho0 fun h9 X9 => ?_
  by_cases c5 : anyC ws 0 reaL
  · have e : restF ws = 1 := by unfold restF; rw [if_neg c1, if_neg c2, if_neg c3, if_neg c4, if_pos c5]
    rw [e]
    simp +contextual (disch := first | (simp only [fr]; done) | omega | (simp only [Knx]; omega) | (apply Nat.le_antisymm <;> simp only [Knx] <;> omega) | fail) only [wpy, fD, reduceLE, reduceLT, reduceLeDiff, UInt8.reduceToNat, ↓reduceIte, reduceEqDiff, reduceAdd, reduceCtorEq, reduceToNat, Tryd.f61, e0, c5]
    exact X9
  simp +contextual (disch := first | (simp only [fr]; done) | omega | (simp only [Knx]; omega) | (apply Nat.le_antisymm <;> simp only [Knx] <;> omega) | fail) only [wpy, fD, reduceLE, reduceLT, reduceLeDiff, UInt8.reduceToNat, ↓reduceIte, reduceEqDiff, reduceAdd, reduceCtorEq, reduceToNat, Tryd.f61, e0, c5]
  generalize hB : H.push (H.push _ _) _ = hB0
  have b0 : hB0.get h9.nx = some (.cells (rw0.map V.str) 9 false) := by rw [← hB]; simp +contextual (disch := first | (simp only [fr]; done) | omega | (simp only [Knx]; omega) | (apply Nat.le_antisymm <;> simp only [Knx] <;> omega) | fail) only [wpy, fD, reduceLE, reduceLT, reduceLeDiff, UInt8.reduceToNat, ↓reduceIte, reduceEqDiff, reduceAdd, reduceCtorEq, reduceToNat] <;> rfl
  have b1 : hB0.get (h9.nx + 1) = some (.cells (rw1.map V.str) 9 false) := by rw [← hB]; simp +contextual (disch := first | (simp only [fr]; done) | omega | (simp only [Knx]; omega) | (apply Nat.le_antisymm <;> simp only [Knx] <;> omega) | fail) only [wpy, fD, reduceLE, reduceLT, reduceLeDiff, UInt8.reduceToNat, ↓reduceIte, reduceEqDiff, reduceAdd, reduceCtorEq, reduceToNat] <;> rfl
  have b2 : hB0.get (h9.nx + 2) = some (.cells (rw2.map V.str) 9 false) := by rw [← hB]; simp +contextual (disch := first | (simp only [fr]; done) | omega | (simp only [Knx]; omega) | (apply Nat.le_antisymm <;> simp only [Knx] <;> omega) | fail) only [wpy, fD, reduceLE, reduceLT, reduceLeDiff, UInt8.reduceToNat, ↓reduceIte, reduceEqDiff, reduceAdd, reduceCtorEq, reduceToNat] <;> rfl
  have b3 : hB0.get (h9.nx + 3) = some (.cells (rw3.map V.str) 9 false) := by rw [← hB]; simp +contextual (disch := first | (simp only [fr]; done) | omega | (simp only [Knx]; omega) | (apply Nat.le_antisymm <;> simp only [Knx] <;> omega) | fail) only [wpy, fD, reduceLE, reduceLT, reduceLeDiff, UInt8.reduceToNat, ↓reduceIte, reduceEqDiff, reduceAdd, reduceCtorEq, reduceToNat] <;> rfl
  have b4 : hB0.get (h9.nx + 4) = some (.cells [.slice h9.nx 0 2 2, .slice (h9.nx + 1) 0 2 2, .slice (h9.nx + 2) 0 2 2, .slice (h9.nx + 3) 0 3 3] 29 false) := by rw [← hB]; simp +contextual (disch := first | (simp only [fr]; done) | omega | (simp only [Knx]; omega) | (apply Nat.le_antisymm <;> simp only [Knx] <;> omega) | fail) only [wpy, fD, reduceLE, reduceLT, reduceLeDiff, UInt8.reduceToNat, ↓reduceIte, reduceEqDiff, reduceAdd, reduceCtorEq, reduceToNat] <;> rfl
  have hBn : hB0.nx = h9.nx + 5 := by rw [← hB]; rfl
  have XB : Ext h hB0 := by
    rw [← hB]
    repeat' (first | exact X9 | refine Ext.push ?_ _)
  clear hB
  have haB := ha.ext XB
  have hoB : ∀ k, hB0.nx ≤ k → fresh h.nx nil1 k := fun k q => ho0 k (by have := XB.1; omega)
  refine run_loop (fun k env h' => ∃ i : Nat, k = 4 - i ∧ i ≤ 4 ∧ env 0 = lv ∧ env 48 = .slice (h9.nx + 4) 0 4 4 ∧ env 49 = .int .i64 (4 : Nat) ∧ env 50 = .int .i64 i ∧ Ext hB0 h' ∧ (0 < i → ¬ allC ws 0 rw0) ∧ (1 < i → ¬ allC ws 0 rw1) ∧ (2 < i → ¬ allC ws 0 rw2) ∧ (3 < i → ¬ allC ws 0 rw3)) 4 ⟨0, ?_⟩ ?_
  · simp +contextual (disch := first | (simp only [fr]; done) | omega | (simp only [Knx]; omega) | (apply Nat.le_antisymm <;> simp only [Knx] <;> omega) | fail) only [wpy, fD, reduceLE, reduceLT, reduceLeDiff, UInt8.reduceToNat, ↓reduceIte, reduceEqDiff, reduceAdd, reduceCtorEq, reduceToNat]
    exact ⟨e0, Ext.refl _, fun q => by omega, fun q => by omega, fun q => by omega, fun q => by omega⟩
  rintro k env h' ⟨i, rfl, hi, f0, f48, f49, f50, hx, n0, n1, n2, n3⟩
  have g4 : h'.get (h9.nx + 4) = some (.cells [.slice h9.nx 0 2 2, .slice (h9.nx + 1) 0 2 2, .slice (h9.nx + 2) 0 2 2, .slice (h9.nx + 3) 0 3 3] 29 false) := by rw [hx.2 _ (by omega)]; exact b4
  have hxn := hx.1
  have XX := XB.trans hx
  have hR : ∀ v : Nat, (allC ws 0 rw0 ∨ allC ws 0 rw1 ∨ allC ws 0 rw2 ∨ allC ws 0 rw3) → restF ws = 1 := fun _ q => by unfold restF; rw [if_neg c1, if_neg c2, if_neg c3, if_neg c4, if_neg c5, if_pos q]
  rcases (show i = 0 ∨ i = 1 ∨ i = 2 ∨ i = 3 ∨ i = 4 by omega) with rfl | rfl | rfl | rfl | rfl
  · have hlt : ((0 : Nat) < 4) = True := eq_true (by decide)
    simp +contextual (disch := first | (simp only [fr]; done) | omega | (simp only [Knx]; omega) | (apply Nat.le_antisymm <;> simp only [Knx] <;> omega) | fail) only [wpy, fD, reduceLE, reduceLT, reduceLeDiff, UInt8.reduceToNat, ↓reduceIte, reduceEqDiff, reduceAdd, reduceCtorEq, reduceToNat, Tryd.f61, f0, f48, f49, f50, g4, hlt]
    refine rx_reads hS hx haB hoB fun C => ?_
    simp +contextual (disch := first | (simp only [fr]; done) | omega | (simp only [Knx]; omega) | (apply Nat.le_antisymm <;> simp only [Knx] <;> omega) | fail) only [wpy, fD, reduceLE, reduceLT, reduceLeDiff, UInt8.reduceToNat, ↓reduceIte, reduceEqDiff, reduceAdd, reduceCtorEq, reduceToNat, Tryd.f61, f0, f48, f49, f50, g4, hlt]
    refine rx_allO hS C hw rw0 (goodTs (by decide)) (by decide) (by decide) (h9.nx + 0) (by show h9.nx + 0 < h'.nx + 1; omega) (by omega) (by rw [push_ne (by omega), hx.2 _ (by omega)]; exact b0) hoB fun h'' hx2 => ?_
    by_cases q : allC ws 0 rw0
    · rw [hR 0 (.inl q)]
      simp +contextual (disch := first | (simp only [fr]; done) | omega | (simp only [Knx]; omega) | (apply Nat.le_antisymm <;> simp only [Knx] <;> omega) | fail) only [wpy, fD, reduceLE, reduceLT, reduceLeDiff, UInt8.reduceToNat, ↓reduceIte, reduceEqDiff, reduceAdd, reduceCtorEq, reduceToNat, Tryd.f61, f0, f48, f49, f50, q]
      exact XB.trans hx2
    · simp +contextual (disch := first | (simp only [fr]; done) | omega | (simp only [Knx]; omega) | (apply Nat.le_antisymm <;> simp only [Knx] <;> omega) | fail) only [wpy, fD, reduceLE, reduceLT, reduceLeDiff, UInt8.reduceToNat, ↓reduceIte, reduceEqDiff, reduceAdd, reduceCtorEq, reduceToNat, Tryd.f61, f0, f48, f49, f50, q]
      exact ⟨4 - 1, by decide, 1, rfl, by decide, rfl, hx2, fun q => absurd q (by decide), fun q => absurd q (by decide), fun q => absurd q (by decide)⟩
  · have hlt : ((1 : Nat) < 4) = True := eq_true (by decide)
    simp +contextual (disch := first | (simp only [fr]; done) | omega | (simp only [Knx]; omega) | (apply Nat.le_antisymm <;> simp only [Knx] <;> omega) | fail) only [wpy, fD, reduceLE, reduceLT, reduceLeDiff, UInt8.reduceToNat, ↓reduceIte, reduceEqDiff, reduceAdd, reduceCtorEq, reduceToNat, Tryd.f61, f0, f48, f49, f50, g4, hlt]
    refine rx_reads hS hx haB hoB fun C => ?_
    simp +contextual (disch := first | (simp only [fr]; done) | omega | (simp only [Knx]; omega) | (apply Nat.le_antisymm <;> simp only [Knx] <;> omega) | fail) only [wpy, fD, reduceLE, reduceLT, reduceLeDiff, UInt8.reduceToNat, ↓reduceIte, reduceEqDiff, reduceAdd, reduceCtorEq, reduceToNat, Tryd.f61, f0, f48, f49, f50, g4, hlt]
    refine rx_allO hS C hw rw1 (goodTs (by decide)) (by decide) (by decide) (h9.nx + 1) (by show h9.nx + 1 < h'.nx + 1; omega) (by omega) (by rw [push_ne (by omega), hx.2 _ (by omega)]; exact b1) hoB fun h'' hx2 => ?_
    by_cases q : allC ws 0 rw1
    · rw [hR 0 (.inr (.inl q))]
      simp +contextual (disch := first | (simp only [fr]; done) | omega | (simp only [Knx]; omega) | (apply Nat.le_antisymm <;> simp only [Knx] <;> omega) | fail) only [wpy, fD, reduceLE, reduceLT, reduceLeDiff, UInt8.reduceToNat, ↓reduceIte, reduceEqDiff, reduceAdd, reduceCtorEq, reduceToNat, Tryd.f61, f0, f48, f49, f50, q]
      exact XB.trans hx2
    · simp +contextual (disch := first | (simp only [fr]; done) | omega | (simp only [Knx]; omega) | (apply Nat.le_antisymm <;> simp only [Knx] <;> omega) | fail) only [wpy, fD, reduceLE, reduceLT, reduceLeDiff, UInt8.reduceToNat, ↓reduceIte, reduceEqDiff, reduceAdd, reduceCtorEq, reduceToNat, Tryd.f61, f0, f48, f49, f50, q]
      exact ⟨4 - 2, by decide, 2, rfl, by decide, rfl, hx2, fun _ => n0 (by decide), fun q => absurd q (by decide), fun q => absurd q (by decide)⟩
  · have hlt : ((2 : Nat) < 4) = True := eq_true (by decide)
    simp +contextual (disch := first | (simp only [fr]; done) | omega | (simp only [Knx]; omega) | (apply Nat.le_antisymm <;> simp only [Knx] <;> omega) | fail) only [wpy, fD, reduceLE, reduceLT, reduceLeDiff, UInt8.reduceToNat, ↓reduceIte, reduceEqDiff, reduceAdd, reduceCtorEq, reduceToNat, Tryd.f61, f0, f48, f49, f50, g4, hlt]
    refine rx_reads hS hx haB hoB fun C => ?_
    simp +contextual (disch := first | (simp only [fr]; done) | omega | (simp only [Knx]; omega) | (apply Nat.le_antisymm <;> simp only [Knx] <;> omega) | fail) only [wpy, fD, reduceLE, reduceLT, reduceLeDiff, UInt8.reduceToNat, ↓reduceIte, reduceEqDiff, reduceAdd, reduceCtorEq, reduceToNat, Tryd.f61, f0, f48, f49, f50, g4, hlt]
    refine rx_allO hS C hw rw2 (goodTs (by decide)) (by decide) (by decide) (h9.nx + 2) (by show h9.nx + 2 < h'.nx + 1; omega) (by omega) (by rw [push_ne (by omega), hx.2 _ (by omega)]; exact b2) hoB fun h'' hx2 => ?_
    by_cases q : allC ws 0 rw2
    · rw [hR 0 (.inr (.inr (.inl q)))]
      simp +contextual (disch := first | (simp only [fr]; done) | omega | (simp only [Knx]; omega) | (apply Nat.le_antisymm <;> simp only [Knx] <;> omega) | fail) only [wpy, fD, reduceLE, reduceLT, reduceLeDiff, UInt8.reduceToNat, ↓reduceIte, reduceEqDiff, reduceAdd, reduceCtorEq, reduceToNat, Tryd.f61, f0, f48, f49, f50, q]
      exact XB.trans hx2
    · simp +contextual (disch := first | (simp only [fr]; done) | omega | (simp only [Knx]; omega) | (apply Nat.le_antisymm <;> simp only [Knx] <;> omega) | fail) only [wpy, fD, reduceLE, reduceLT, reduceLeDiff, UInt8.reduceToNat, ↓reduceIte, reduceEqDiff, reduceAdd, reduceCtorEq, reduceToNat, Tryd.f61, f0, f48, f49, f50, q]
      exact ⟨4 - 3, by decide, 3, rfl, by decide, rfl, hx2, fun _ => n0 (by decide), fun _ => n1 (by decide), fun q => absurd q (by decide)⟩
  · have hlt : ((3 : Nat) < 4) = True := eq_true (by decide)
    simp +contextual (disch := first | (simp only [fr]; done) | omega | (simp only [Knx]; omega) | (apply Nat.le_antisymm <;> simp only [Knx] <;> omega) | fail) only [wpy, fD, reduceLE, reduceLT, reduceLeDiff, UInt8.reduceToNat, ↓reduceIte, reduceEqDiff, reduceAdd, reduceCtorEq, reduceToNat, Tryd.f61, f0, f48, f49, f50, g4, hlt]
    refine rx_reads hS hx haB hoB fun C => ?_
    simp +contextual (disch := first | (simp only [fr]; done) | omega | (simp only [Knx]; omega) | (apply Nat.le_antisymm <;> simp only [Knx] <;> omega) | fail) only [wpy, fD, reduceLE, reduceLT, reduceLeDiff, UInt8.reduceToNat, ↓reduceIte, reduceEqDiff, reduceAdd, reduceCtorEq, reduceToNat, Tryd.f61, f0, f48, f49, f50, g4, hlt]
    refine rx_allO hS C hw rw3 (goodTs (by decide)) (by decide) (by decide) (h9.nx + 3) (by show h9.nx + 3 < h'.nx + 1; omega) (by omega) (by rw [push_ne (by omega), hx.2 _ (by omega)]; exact b3) hoB fun h'' hx2 => ?_
    by_cases q : allC ws 0 rw3
    · rw [hR 0 (.inr (.inr (.inr q)))]
      simp +contextual (disch := first | (simp only [fr]; done) | omega | (simp only [Knx]; omega) | (apply Nat.le_antisymm <;> simp only [Knx] <;> omega) | fail) only [wpy, fD, reduceLE, reduceLT, reduceLeDiff, UInt8.reduceToNat, ↓reduceIte, reduceEqDiff, reduceAdd, reduceCtorEq, reduceToNat, Tryd.f61, f0, f48, f49, f50, q]
      exact XB.trans hx2
    · simp +contextual (disch := first | (simp only [fr]; done) | omega | (simp only [Knx]; omega) | (apply Nat.le_antisymm <;> simp only [Knx] <;> omega) | fail) only [wpy, fD, reduceLE, reduceLT, reduceLeDiff, UInt8.reduceToNat, ↓reduceIte, reduceEqDiff, reduceAdd, reduceCtorEq, reduceToNat, Tryd.f61, f0, f48, f49, f50, q]
      exact ⟨4 - 4, by decide, 4, rfl, by decide, rfl, hx2, fun _ => n0 (by decide), fun _ => n1 (by decide), fun _ => n2 (by decide)⟩
  · have e : restF ws = 13 := by unfold restF; rw [if_neg c1, if_neg c2, if_neg c3, if_neg c4, if_neg c5, if_neg fun q => q.elim (n0 (by decide)) fun q => q.elim (n1 (by decide)) fun q => q.elim (n2 (by decide)) (n3 (by decide))]
    rw [e]
    have hlt : ((4 : Nat) < 4) = False := eq_false (by decide)
    simp +contextual (disch := first | (simp only [fr]; done) | omega | (simp only [Knx]; omega) | (apply Nat.le_antisymm <;> simp only [Knx] <;> omega) | fail) only [wpy, fD, reduceLE, reduceLT, reduceLeDiff, UInt8.reduceToNat, ↓reduceIte, reduceEqDiff, reduceAdd, reduceCtorEq, reduceToNat, Tryd.f61, f0, f48, f49, f50, hlt]
    exact XX
end
end Go.Proofs.YtkibhdbmamfjcaaDoor
set_option linter.unusedSimpArgs false
set_option linter.unusedVariables false
set_option linter.defProp false
set_option maxRecDepth 10000
namespace Go.Proofs.YtkibhdbmamfjcaaDoor
open Int (reduceLE reduceLT reduceToNat)
open Nat (reduceLeDiff reduceEqDiff reduceAdd)
open Go.Proofs Go.Lx Go.Wx Go.IntWalk
noncomputable section

def useT : List Nat := [117, 115, 101]
def semiP (ws : List WD) : Prop := ∃ i, i < ws.length ∧ knd ws i = 5 ∧ txt ws i = [59]
def oddA (ws : List WD) : Prop := semiP ws ∨ ws.length = 0 ∨ oddsP ws
def useP (ws : List WD) : Prop := isC ws 0 useT ∧ nameP ws 1 ∧ 2 = ws.length
noncomputable instance (ws : List WD) : Decidable (oddA ws) := Classical.propDecidable _
noncomputable instance (ws : List WD) : Decidable (useP ws) := Classical.propDecidable _
def oneF (ws : List WD) : CL := if oddA ws then ⟨13, [], []⟩ else match locksF ws with
  | some c => c
  | none => match transF ws with
    | some c => c
    | none => match varF ws with
      | some c => c
      | none => if useP ws then ⟨6, txt ws 1, []⟩ else match tempsF ws with
        | some c => c
        | none => ⟨restF ws, [], []⟩

variable {S : Set0} (hS : StdE S)
include hS
theorem one_spec (lv : V) (ws : List WD) (h : H) (ha : Wds h lv ws) (hw : ws.length < 2 ^ 40) (ht : ∀ i, (txt ws i).length < 2 ^ 40) (hb : ∀ i, Bytes (txt ws i)) : Pure S.cfg 28 [lv] h fun v _ => v = (oneF ws).v := by
  refine into Tryd.f28 _ Tryd.func28 (hS.ownC _ (by decide)) rfl rfl (by kernel_rfl) (by kernel_rfl) ?_
  have a1 := ha.len
  have h13 : oddA ws → (oneF ws).v = .agg [.int .i64 (13 : Nat), .str [], .str []] := fun q => by unfold oneF; rw [if_pos q]; rfl
  simp +contextual (disch := first | (simp only [fr]; done) | omega | (simp only [Knx]; omega) | (apply Nat.le_antisymm <;> simp only [Knx] <;> omega) | fail) only [wpy, fD, reduceLE, reduceLT, reduceLeDiff, UInt8.reduceToNat, ↓reduceIte, reduceEqDiff, reduceAdd, reduceCtorEq, reduceToNat, Tryd.f28, a1]
  refine run_loop (fun k env h' => ∃ i : Nat, k = ws.length - i ∧ i ≤ ws.length ∧ env 0 = lv ∧ env 2 = .ptr h.nx 0 ∧ env 14 = lv ∧ env 15 = .int .i64 ws.length ∧ env 16 = .int .i64 i ∧ CZ h h' ∧ ∀ j, j < i → ¬ (knd ws j = 5 ∧ txt ws j = [59])) ws.length ⟨0, ?_⟩ ?_
  · simp +contextual (disch := first | (simp only [fr]; done) | omega | (simp only [Knx]; omega) | (apply Nat.le_antisymm <;> simp only [Knx] <;> omega) | fail) only [wpy, fD, reduceLE, reduceLT, reduceLeDiff, UInt8.reduceToNat, ↓reduceIte, reduceEqDiff, reduceAdd, reduceCtorEq, reduceToNat]
    exact ⟨(Nat.sub_zero _).symm, CZ.new h, fun j hj => by omega⟩
  rintro k env h' ⟨i, rfl, hi, e0, e2, e14, e15, e16, C, hno⟩
  have hne : ¬ h.nx = h'.nx := by have := C.lt; omega
  have hg := C.z
  by_cases hi2 : i < ws.length
  · obtain ⟨b, o, mc, c, e, fl, rfl, hbn, hgb, w0, w1⟩ := (ha.ext C.ext).get hi2
    rw [← wordAt_lt hi2] at w1
    have hW : (wordAt ws i).cells = [.int .i64 (knd ws i), .str (txt ws i), .int .i64 (wordAt ws i).at_] := rfl
    rw [hW] at w1
    by_cases hc : knd ws i = 5 ∧ txt ws i = [59]
    · rw [h13 (.inl ⟨i, hi2, hc⟩)]
      simp +contextual (disch := first | (simp only [fr]; done) | omega | (simp only [Knx]; omega) | (apply Nat.le_antisymm <;> simp only [Knx] <;> omega) | exact dok (by kernel_rfl)) only [draw_calm, draw_calmA, wpy, fD, reduceLE, reduceLT, reduceLeDiff, UInt8.reduceToNat, ↓reduceIte, reduceEqDiff, reduceAdd, reduceCtorEq, reduceToNat, Tryd.f28, e0, e2, e14, e15, e16, hi2, hgb, w0, w1, hc.1, hc.2, hg, hne]
      exact ⟨.inr (by have := C.lt; omega), (C.more (((Ext.refl _).push _).put (Nat.le_refl _) _)).done _, rfl⟩
    · simp +contextual (disch := first | (simp only [fr]; done) | omega | (simp only [Knx]; omega) | (apply Nat.le_antisymm <;> simp only [Knx] <;> omega) | exact dok (by kernel_rfl)) only [draw_calm, draw_calmA, wpy, fD, reduceLE, reduceLT, reduceLeDiff, UInt8.reduceToNat, ↓reduceIte, reduceEqDiff, reduceAdd, reduceCtorEq, reduceToNat, Tryd.f28, e0, e2, e14, e15, e16, hi2, hgb, w0, w1, hc, hg, hne]
      refine ⟨.inr (by have := C.lt; omega), _, ?_, i + 1, rfl, by omega, rfl, C.more (((Ext.refl _).push _).put (Nat.le_refl _) _), fun j hj => ?_⟩
      · omega
      · by_cases hji : j < i
        · exact hno j hji
        · obtain rfl : j = i := by omega
          exact hc
  obtain rfl : i = ws.length := by omega
  have hns : ¬ semiP ws := fun ⟨j, hj, q⟩ => hno j hj q
  by_cases hz : ws.length = 0
  · rw [h13 (.inr (.inl hz))]
    simp +contextual (disch := first | (simp only [fr]; done) | omega | (simp only [Knx]; omega) | (apply Nat.le_antisymm <;> simp only [Knx] <;> omega) | fail) only [wpy, fD, reduceLE, reduceLT, reduceLeDiff, UInt8.reduceToNat, ↓reduceIte, reduceEqDiff, reduceAdd, reduceCtorEq, reduceToNat, Tryd.f28, e0, e2, e14, e15, e16, eq_true hz, a1, hg, Nat.lt_irrefl]
    exact ⟨C.done _, rfl⟩
  simp +contextual (disch := first | (simp only [fr]; done) | omega | (simp only [Knx]; omega) | (apply Nat.le_antisymm <;> simp only [Knx] <;> omega) | fail) only [wpy, fD, reduceLE, reduceLT, reduceLeDiff, UInt8.reduceToNat, ↓reduceIte, reduceEqDiff, reduceAdd, reduceCtorEq, reduceToNat, Tryd.f28, e0, e2, e14, e15, e16, hz, a1, Nat.lt_irrefl]
  refine callF_pure (cOdd_spec hS.toStdC lv ws h' (ha.ext C.ext) hw) ?_
  rintro v h2 hx2 rfl
  have C2 := C.more hx2
  have hg2 := C2.z
  by_cases ho : oddsP ws
  · rw [h13 (.inr (.inr ho))]
    simp +contextual (disch := first | (simp only [fr]; done) | omega | (simp only [Knx]; omega) | (apply Nat.le_antisymm <;> simp only [Knx] <;> omega) | fail) only [wpy, fD, reduceLE, reduceLT, reduceLeDiff, UInt8.reduceToNat, ↓reduceIte, reduceEqDiff, reduceAdd, reduceCtorEq, reduceToNat, Tryd.f28, e0, e2, e14, e15, e16, hz, ho, hg2]
    exact ⟨C2.done _, rfl⟩
  have hno0 : ¬ oddA ws := fun q => q.elim hns fun q => q.elim hz ho
  simp +contextual (disch := first | (simp only [fr]; done) | omega | (simp only [Knx]; omega) | (apply Nat.le_antisymm <;> simp only [Knx] <;> omega) | fail) only [wpy, fD, reduceLE, reduceLT, reduceLeDiff, UInt8.reduceToNat, ↓reduceIte, reduceEqDiff, reduceAdd, reduceCtorEq, reduceToNat, Tryd.f28, e0, e2, e14, e15, e16, hz, ho]
  have C3 := C2.more ((Ext.refl h2).push (.cells [.func 53 [] [], .func 54 [] [], .func 55 [] []] 75 false))
  refine run_loop (fun k env h' => ∃ i : Nat, k = 3 - i ∧ i ≤ 3 ∧ env 0 = lv ∧ env 2 = .ptr h.nx 0 ∧ env 38 = .slice h2.nx 0 3 3 ∧ env 39 = .int .i64 (3 : Nat) ∧ env 40 = .int .i64 i ∧ CZ h h' ∧ h2.nx < h'.nx ∧ h'.get h2.nx = some (.cells [.func 53 [] [], .func 54 [] [], .func 55 [] []] 75 false) ∧ (0 < i → locksF ws = none) ∧ (1 < i → transF ws = none) ∧ (2 < i → varF ws = none)) 3 ⟨0, ?_⟩ ?_
  · simp +contextual (disch := first | (simp only [fr]; done) | omega | (simp only [Knx]; omega) | (apply Nat.le_antisymm <;> simp only [Knx] <;> omega) | fail) only [wpy, fD, reduceLE, reduceLT, reduceLeDiff, UInt8.reduceToNat, ↓reduceIte, reduceEqDiff, reduceAdd, reduceCtorEq, reduceToNat, e0, e2]
    exact ⟨C3, Nat.lt_succ_self _, fun q => by omega, fun q => by omega, fun q => by omega⟩
  rintro k env h' ⟨i, rfl, hi, f0, f2, f38, f39, f40, C, hbn, hgF, n0, n1, n2⟩
  rcases (show i = 0 ∨ i = 1 ∨ i = 2 ∨ i = 3 by omega) with rfl | rfl | rfl | rfl
  · have hlt : ((0 : Nat) < 3) = True := eq_true (by decide)
    simp +contextual (disch := first | (simp only [fr]; done) | omega | (simp only [Knx]; omega) | (apply Nat.le_antisymm <;> simp only [Knx] <;> omega) | fail) only [wpy, fD, reduceLE, reduceLT, reduceLeDiff, UInt8.reduceToNat, ↓reduceIte, reduceEqDiff, reduceAdd, reduceCtorEq, reduceToNat, Tryd.f28, f0, f2, f38, f39, f40, hgF, hlt]
    refine callF_pure (locks_spec hS lv ws h' (ha.ext C.ext) hw ht) ?_
    rintro v h5 hx5 rfl
    have C5 := C.more hx5
    have hz5 := C5.z
    have hne : ¬ h.nx = h5.nx := by have := C5.lt; omega
    have hgF5 : h5.get h2.nx = some (.cells [.func 53 [] [], .func 54 [] [], .func 55 [] []] 75 false) := by rw [hx5.2 _ hbn]; exact hgF
    cases ho : locksF ws with
    | none =>
      rw [optV_none]
      simp +contextual (disch := first | (simp only [fr]; done) | omega | (simp only [Knx]; omega) | (apply Nat.le_antisymm <;> simp only [Knx] <;> omega) | fail) only [wpy, fD, reduceLE, reduceLT, reduceLeDiff, UInt8.reduceToNat, ↓reduceIte, reduceEqDiff, reduceAdd, reduceCtorEq, reduceToNat, Tryd.f28, f0, f2, f38, f39, f40]
      exact ⟨by have := C5.lt; omega, 3 - 1, by decide, 1, rfl, by decide, rfl, C5.more (((Ext.refl _).push _).put (Nat.le_refl _) _), by show h2.nx < h5.nx + 1; have := hx5.1; omega, by rw [put_ne (by have := hx5.1; omega), push_ne (by have := hx5.1; omega)]; exact hgF5, fun q => absurd q (by decide), fun q => absurd q (by decide)⟩
    | some c =>
      have e : oneF ws = c := by unfold oneF; rw [if_neg hno0, ho]
      rw [e, optV_some]
      simp +contextual (disch := first | (simp only [fr]; done) | omega | (simp only [Knx]; omega) | (apply Nat.le_antisymm <;> simp only [Knx] <;> omega) | fail) only [wpy, fD, reduceLE, reduceLT, reduceLeDiff, UInt8.reduceToNat, ↓reduceIte, reduceEqDiff, reduceAdd, reduceCtorEq, reduceToNat, Tryd.f28, f0, f2, f38, f39, f40, hz5, hne, CL.v]
      exact ⟨.inr (by have := C5.lt; omega), (C5.more (((Ext.refl _).push _).put (Nat.le_refl _) _)).done _⟩
  · have hlt : ((1 : Nat) < 3) = True := eq_true (by decide)
    simp +contextual (disch := first | (simp only [fr]; done) | omega | (simp only [Knx]; omega) | (apply Nat.le_antisymm <;> simp only [Knx] <;> omega) | fail) only [wpy, fD, reduceLE, reduceLT, reduceLeDiff, UInt8.reduceToNat, ↓reduceIte, reduceEqDiff, reduceAdd, reduceCtorEq, reduceToNat, Tryd.f28, f0, f2, f38, f39, f40, hgF, hlt]
    refine callF_pure (trans_spec hS.toStdC lv ws h' (ha.ext C.ext) hw) ?_
    rintro v h5 hx5 rfl
    have C5 := C.more hx5
    have hz5 := C5.z
    have hne : ¬ h.nx = h5.nx := by have := C5.lt; omega
    have hgF5 : h5.get h2.nx = some (.cells [.func 53 [] [], .func 54 [] [], .func 55 [] []] 75 false) := by rw [hx5.2 _ hbn]; exact hgF
    cases ho : transF ws with
    | none =>
      rw [optV_none]
      simp +contextual (disch := first | (simp only [fr]; done) | omega | (simp only [Knx]; omega) | (apply Nat.le_antisymm <;> simp only [Knx] <;> omega) | fail) only [wpy, fD, reduceLE, reduceLT, reduceLeDiff, UInt8.reduceToNat, ↓reduceIte, reduceEqDiff, reduceAdd, reduceCtorEq, reduceToNat, Tryd.f28, f0, f2, f38, f39, f40]
      exact ⟨by have := C5.lt; omega, 3 - 2, by decide, 2, rfl, by decide, rfl, C5.more (((Ext.refl _).push _).put (Nat.le_refl _) _), by show h2.nx < h5.nx + 1; have := hx5.1; omega, by rw [put_ne (by have := hx5.1; omega), push_ne (by have := hx5.1; omega)]; exact hgF5, fun _ => n0 (by decide), fun q => absurd q (by decide)⟩
    | some c =>
      have e : oneF ws = c := by unfold oneF; rw [if_neg hno0, n0 (by decide), ho]
      rw [e, optV_some]
      simp +contextual (disch := first | (simp only [fr]; done) | omega | (simp only [Knx]; omega) | (apply Nat.le_antisymm <;> simp only [Knx] <;> omega) | fail) only [wpy, fD, reduceLE, reduceLT, reduceLeDiff, UInt8.reduceToNat, ↓reduceIte, reduceEqDiff, reduceAdd, reduceCtorEq, reduceToNat, Tryd.f28, f0, f2, f38, f39, f40, hz5, hne, CL.v]
      exact ⟨.inr (by have := C5.lt; omega), (C5.more (((Ext.refl _).push _).put (Nat.le_refl _) _)).done _⟩
  · have hlt : ((2 : Nat) < 3) = True := eq_true (by decide)
    simp +contextual (disch := first | (simp only [fr]; done) | omega | (simp only [Knx]; omega) | (apply Nat.le_antisymm <;> simp only [Knx] <;> omega) | fail) only [wpy, fD, reduceLE, reduceLT, reduceLeDiff, UInt8.reduceToNat, ↓reduceIte, reduceEqDiff, reduceAdd, reduceCtorEq, reduceToNat, Tryd.f28, f0, f2, f38, f39, f40, hgF, hlt]
    refine callF_pure (var_spec hS lv ws h' (ha.ext C.ext) hw ht hb) ?_
    rintro v h5 hx5 rfl
    have C5 := C.more hx5
    have hz5 := C5.z
    have hne : ¬ h.nx = h5.nx := by have := C5.lt; omega
    have hgF5 : h5.get h2.nx = some (.cells [.func 53 [] [], .func 54 [] [], .func 55 [] []] 75 false) := by rw [hx5.2 _ hbn]; exact hgF
    cases ho : varF ws with
    | none =>
      rw [optV_none]
      simp +contextual (disch := first | (simp only [fr]; done) | omega | (simp only [Knx]; omega) | (apply Nat.le_antisymm <;> simp only [Knx] <;> omega) | fail) only [wpy, fD, reduceLE, reduceLT, reduceLeDiff, UInt8.reduceToNat, ↓reduceIte, reduceEqDiff, reduceAdd, reduceCtorEq, reduceToNat, Tryd.f28, f0, f2, f38, f39, f40]
      exact ⟨by have := C5.lt; omega, 3 - 3, by decide, 3, rfl, by decide, rfl, C5.more (((Ext.refl _).push _).put (Nat.le_refl _) _), by show h2.nx < h5.nx + 1; have := hx5.1; omega, by rw [put_ne (by have := hx5.1; omega), push_ne (by have := hx5.1; omega)]; exact hgF5, fun _ => n0 (by decide), fun _ => n1 (by decide)⟩
    | some c =>
      have e : oneF ws = c := by unfold oneF; rw [if_neg hno0, n0 (by decide), n1 (by decide), ho]
      rw [e, optV_some]
      simp +contextual (disch := first | (simp only [fr]; done) | omega | (simp only [Knx]; omega) | (apply Nat.le_antisymm <;> simp only [Knx] <;> omega) | fail) only [wpy, fD, reduceLE, reduceLT, reduceLeDiff, UInt8.reduceToNat, ↓reduceIte, reduceEqDiff, reduceAdd, reduceCtorEq, reduceToNat, Tryd.f28, f0, f2, f38, f39, f40, hz5, hne, CL.v]
      exact ⟨.inr (by have := C5.lt; omega), (C5.more (((Ext.refl _).push _).put (Nat.le_refl _) _)).done _⟩
  have hlt : ((3 : Nat) < 3) = False := eq_false (by decide)
  have z0 := n0 (by decide)
  have z1 := n1 (by decide)
  have z2 := n2 (by decide)
  have hO : oneF ws = if useP ws then ⟨6, txt ws 1, []⟩ else match tempsF ws with
        | some c => c
        | none => ⟨restF ws, [], []⟩ := by unfold oneF; rw [if_neg hno0, z0, z1, z2]
  simp +contextual (disch := first | (simp only [fr]; done) | omega | (simp only [Knx]; omega) | (apply Nat.le_antisymm <;> simp only [Knx] <;> omega) | fail) only [wpy, fD, reduceLE, reduceLT, reduceLeDiff, UInt8.reduceToNat, ↓reduceIte, reduceEqDiff, reduceAdd, reduceCtorEq, reduceToNat, Tryd.f28, f0, f2, f38, f39, f40, hlt]
  refine rc_reads hS.toStdC C ha fun C4 => ?_
  simp +contextual (disch := first | (simp only [fr]; done) | omega | (simp only [Knx]; omega) | (apply Nat.le_antisymm <;> simp only [Knx] <;> omega) | fail) only [wpyr, fD, reduceLE, reduceLT, reduceLeDiff, UInt8.reduceToNat, ↓reduceIte, reduceEqDiff, reduceAdd, reduceCtorEq, reduceToNat, Tryd.f28, f0, f2]
  refine rc_is hS.toStdC C4 hw useT ⟨by decide, (goodTs (l := [useT]) (by decide) _ (by simp)).2⟩ fun h5 C5 => ?_
  simp +contextual (disch := first | (simp only [fr]; done) | omega | (simp only [Knx]; omega) | (apply Nat.le_antisymm <;> simp only [Knx] <;> omega) | fail) only [wpyr, fD, reduceLE, reduceLT, reduceLeDiff, UInt8.reduceToNat, ↓reduceIte, reduceEqDiff, reduceAdd, reduceCtorEq, reduceToNat, Tryd.f28, f0, f2]
  refine run_cut (fun env' h' => env' 0 = lv ∧ env' 2 = .ptr h.nx 0 ∧ CZ h h' ∧ ¬ useP ws) ?_ ?_
  · by_cases u1 : isC ws 0 useT
    · rw [if_pos u1] at C5
      have C5 : RC _ _ _ _ _ 1 := C5
      simp +contextual (disch := first | (simp only [fr]; done) | omega | (simp only [Knx]; omega) | (apply Nat.le_antisymm <;> simp only [Knx] <;> omega) | fail) only [wpy, fD, reduceLE, reduceLT, reduceLeDiff, UInt8.reduceToNat, ↓reduceIte, reduceEqDiff, reduceAdd, reduceCtorEq, reduceToNat, Tryd.f28, f0, f2, u1]
      refine rc_name hS.toStdC C5 hw fun h6 C6 => ?_
      by_cases u2 : nameP ws 1
      · rw [if_pos u2] at C6
        have C6 : RC _ _ _ _ _ 2 := C6
        simp +contextual (disch := first | (simp only [fr]; done) | omega | (simp only [Knx]; omega) | (apply Nat.le_antisymm <;> simp only [Knx] <;> omega) | fail) only [wpy, fD, reduceLE, reduceLT, reduceLeDiff, UInt8.reduceToNat, ↓reduceIte, reduceEqDiff, reduceAdd, reduceCtorEq, reduceToNat, Tryd.f28, f0, f2, u2]
        refine rc_over hS.toStdC C6 ?_
        by_cases u3 : 2 = ws.length
        · have e : oneF ws = ⟨6, txt ws 1, []⟩ := by rw [hO, if_pos (show useP ws from ⟨u1, u2, u3⟩)]
          have hz := C6.cz.z
          rw [e]
          simp +contextual (disch := first | (simp only [fr]; done) | omega | (simp only [Knx]; omega) | (apply Nat.le_antisymm <;> simp only [Knx] <;> omega) | fail) only [wpy, fD, reduceLE, reduceLT, reduceLeDiff, UInt8.reduceToNat, ↓reduceIte, reduceEqDiff, reduceAdd, reduceCtorEq, reduceToNat, Tryd.f28, f0, f2, eq_true u3, hz]
          exact ⟨C6.cz.done _, rfl⟩
        · simp +contextual (disch := first | (simp only [fr]; done) | omega | (simp only [Knx]; omega) | (apply Nat.le_antisymm <;> simp only [Knx] <;> omega) | fail) only [wpy, fD, reduceLE, reduceLT, reduceLeDiff, UInt8.reduceToNat, ↓reduceIte, reduceEqDiff, reduceAdd, reduceCtorEq, reduceToNat, Tryd.f28, f0, f2, u3]
          exact ⟨C6.cz, fun q => u3 q.2.2⟩
      · simp +contextual (disch := first | (simp only [fr]; done) | omega | (simp only [Knx]; omega) | (apply Nat.le_antisymm <;> simp only [Knx] <;> omega) | fail) only [wpy, fD, reduceLE, reduceLT, reduceLeDiff, UInt8.reduceToNat, ↓reduceIte, reduceEqDiff, reduceAdd, reduceCtorEq, reduceToNat, Tryd.f28, f0, f2, u2]
        exact ⟨C6.cz, fun q => u2 q.2.1⟩
    · simp +contextual (disch := first | (simp only [fr]; done) | omega | (simp only [Knx]; omega) | (apply Nat.le_antisymm <;> simp only [Knx] <;> omega) | fail) only [wpy, fD, reduceLE, reduceLT, reduceLeDiff, UInt8.reduceToNat, ↓reduceIte, reduceEqDiff, reduceAdd, reduceCtorEq, reduceToNat, Tryd.f28, f0, f2, u1]
      exact ⟨C5.cz, fun q => u1 q.1⟩
  rintro env' h7 ⟨f0, f2, C7, nu⟩
  simp +contextual (disch := first | (simp only [fr]; done) | omega | (simp only [Knx]; omega) | (apply Nat.le_antisymm <;> simp only [Knx] <;> omega) | fail) only [wpy, fD, reduceLE, reduceLT, reduceLeDiff, UInt8.reduceToNat, ↓reduceIte, reduceEqDiff, reduceAdd, reduceCtorEq, reduceToNat, Tryd.f28, f0, f2]
  refine callF_pure (temps_spec hS.toStdC lv ws h7 (ha.ext C7.ext) hw ht) ?_
  rintro v h8 hx8 rfl
  have C8 := C7.more hx8
  have hz8 := C8.z
  have hne : ¬ h.nx = h8.nx := by have := C8.lt; omega
  cases ho : tempsF ws with
  | some c =>
    have e : oneF ws = c := by rw [hO, if_neg nu, ho]
    rw [e, optV_some]
    simp +contextual (disch := first | (simp only [fr]; done) | omega | (simp only [Knx]; omega) | (apply Nat.le_antisymm <;> simp only [Knx] <;> omega) | fail) only [wpy, fD, reduceLE, reduceLT, reduceLeDiff, UInt8.reduceToNat, ↓reduceIte, reduceEqDiff, reduceAdd, reduceCtorEq, reduceToNat, Tryd.f28, f0, f2, hz8, hne, CL.v]
    exact ⟨by have := C8.lt; omega, (C8.more (((Ext.refl _).push _).put (Nat.le_refl _) _)).done _⟩
  | none =>
    have e : oneF ws = ⟨restF ws, [], []⟩ := by rw [hO, if_neg nu, ho]
    rw [e, optV_none]
    simp +contextual (disch := first | (simp only [fr]; done) | omega | (simp only [Knx]; omega) | (apply Nat.le_antisymm <;> simp only [Knx] <;> omega) | fail) only [wpy, fD, reduceLE, reduceLT, reduceLeDiff, UInt8.reduceToNat, ↓reduceIte, reduceEqDiff, reduceAdd, reduceCtorEq, reduceToNat, Tryd.f28, f0, f2]
    have C9 := C8.more (((Ext.refl h8).push (.cells [.int .i64 0, .str [], .str []] 45 false)).put (Nat.le_refl _) (.cells [.int .i64 0, .str [], .str []] 45 false))
    refine ⟨by have := C8.lt; omega, callF_pure (rest_spec hS.toStdC lv ws _ (ha.ext C9.ext) hw) ?_⟩
    rintro v h10 hx10 rfl
    have C10 := C9.more hx10
    have hz10 := C10.z
    simp +contextual (disch := first | (simp only [fr]; done) | omega | (simp only [Knx]; omega) | (apply Nat.le_antisymm <;> simp only [Knx] <;> omega) | fail) only [wpy, fD, reduceLE, reduceLT, reduceLeDiff, UInt8.reduceToNat, ↓reduceIte, reduceEqDiff, reduceAdd, reduceCtorEq, reduceToNat, Tryd.f28, f0, f2, hz10]
    exact ⟨C10.done _, rfl⟩
end
end Go.Proofs.YtkibhdbmamfjcaaDoor
set_option linter.unusedSimpArgs false
set_option linter.unusedVariables false
set_option linter.defProp false
set_option maxRecDepth 10000
namespace Go.Proofs.YtkibhdbmamfjcaaDoor
open Int (reduceLE reduceLT reduceToNat)
open Nat (reduceLeDiff reduceEqDiff reduceAdd)
open Go.Proofs Go.Lx Go.Wx Go.IntWalk
noncomputable section

theorem drop_ne {s : List Nat} {p : Nat} (h : p < s.length) : s.drop p ≠ [] := fun q => by have := congrArg List.length q; simp at this; omega

theorem eq26_0 (a b c d : Int) : eqT Tryd.prog 26 (.agg [.int .i64 a, .int .i64 b]) (.agg [.int .i64 c, .int .i64 d]) = (match some (a == c) with
    | some true => (match some (b == d) with
      | some true => some true
      | r => r)
    | r => r) := by kernel_rfl
theorem eq26 (a b c d : Int) : eqT Tryd.prog 26 (.agg [.int .i64 a, .int .i64 b]) (.agg [.int .i64 c, .int .i64 d]) = some (decide (a = c ∧ b = d)) := by
  rw [eq26_0]
  by_cases h1 : a = c
  · by_cases h2 : b = d
    · simp [h1, h2]
    · have : (b == d) = false := by simpa using h2
      simp [h1, h2, this]
  · have : (a == c) = false := by simpa using h1
    simp [h1, this]
theorem agg_eql (t : TypeId) (q : Bool) (a b c d : Int) (ht : t = 26) : binV Tryd.prog .eql t q (.agg [.int .i64 a, .int .i64 b]) (.agg [.int .i64 c, .int .i64 d]) = some (bo (a = c ∧ b = d)) := by
  subst ht
  have : binV Tryd.prog .eql 26 q (.agg [.int .i64 a, .int .i64 b]) (.agg [.int .i64 c, .int .i64 d]) = eqOpV Tryd.prog .eql 26 (.agg [.int .i64 a, .int .i64 b]) (.agg [.int .i64 c, .int .i64 d]) := rfl
  rw [this, eqOpV, eq26]
  unfold bo
  by_cases h : a = c ∧ b = d <;> simp [h]
theorem agg_neq (t : TypeId) (q : Bool) (a b c d : Int) (ht : t = 26) : binV Tryd.prog .neq t q (.agg [.int .i64 a, .int .i64 b]) (.agg [.int .i64 c, .int .i64 d]) = some (bo (¬ (a = c ∧ b = d))) := by
  subst ht
  have : binV Tryd.prog .neq 26 q (.agg [.int .i64 a, .int .i64 b]) (.agg [.int .i64 c, .int .i64 d]) = eqOpV Tryd.prog .neq 26 (.agg [.int .i64 a, .int .i64 b]) (.agg [.int .i64 c, .int .i64 d]) := rfl
  rw [this, eqOpV, eq26]
  unfold bo
  by_cases h : a = c ∧ b = d <;> simp [h]
def Sorted (m : Nat) : Nat → List WD → Prop
  | p, [] => p ≤ m
  | p, w :: l => p ≤ w.at_ ∧ Sorted m (w.at_ + 1) l
theorem Sorted.le {m : Nat} : ∀ {p : Nat} {l : List WD}, Sorted m p l → p ≤ m
  | p, [], h => h
  | p, w :: l, h => by have := Sorted.le h.2; have := h.1; omega
theorem Sorted.snoc {m k : Nat} {w : WD} (hk : w.at_ < k) : ∀ {p : Nat} {l : List WD}, Sorted w.at_ p l → Sorted k p (l ++ [w])
  | p, [], h => ⟨h, hk⟩
  | p, x :: l, h => ⟨h.1, Sorted.snoc (m := m) hk h.2⟩
theorem Sorted.mono {m k : Nat} (hk : m ≤ k) : ∀ {p : Nat} {l : List WD}, Sorted m p l → Sorted k p l
  | p, [], h => Nat.le_trans h hk
  | p, x :: l, h => ⟨h.1, Sorted.mono hk h.2⟩
theorem allR_sorted {s : List Nat} (hb : Bytes s) : ∀ (f p : Nat) (acc ws : List WD), allR s f p acc = .inl ws → p ≤ s.length → Sorted p 0 acc → Sorted s.length 0 ws
  | 0, p, acc, ws, h, hp, hs => by
    rw [allR] at h
    injection h with h
    subst h
    exact hs.mono hp
  | f + 1, p, acc, ws, h, hp, hs => by
    rw [allR] at h
    split at h
    · rename_i hpl
      split at h
      · cases h
      · split at h
        · have := passF_le (drop_ne hpl)
          rw [List.length_drop] at this
          exact allR_sorted hb f _ _ _ h (by omega) (hs.mono (by omega))
        · split at h
          · cases h
          · rename_i h1 h2 h3
            have hn := wordD_pos (s := s.drop p) (by omega)
            have hle := (wordD_ok (drop_ne hpl) (hb.drop p)).2.2
            rw [List.length_drop] at hle
            exact allR_sorted hb f _ _ _ h (by omega) (Sorted.snoc (m := 0) (w := ⟨_, _, p⟩) (by show p < _; omega) hs)
    · injection h with h
      subst h
      exact hs.mono hp
theorem allF_sorted {s : List Nat} {ws : List WD} (hb : Bytes s) (h : allF s = .inl ws) : Sorted s.length 0 ws := allR_sorted hb _ _ _ _ h (Nat.zero_le _) (Nat.le_refl _)

theorem Sorted.len {m : Nat} : ∀ {p : Nat} {l : List WD}, Sorted m p l → p + l.length ≤ m
  | p, [], h => h
  | p, w :: l, h => by have := Sorted.len h.2; have := h.1; simp only [List.length_cons]; omega
def isCut (w : WD) : Prop := w.kind = 5 ∧ w.text = [59]
instance (w : WD) : Decidable (isCut w) := inferInstanceAs (Decidable (_ ∧ _))
theorem accW {n0 : Nat} {h : H} {l : V} {ws : List WD} (hA : Acc n0 h l (wcells ws) 36 3) : lenO (some (.slice 36)) l = some (.int .i64 ws.length) := by
  rcases hA with ⟨rfl, hw⟩ | ⟨b, k, _, _, rfl, _, _, hk⟩
  · have : ws.length = 0 := by have := wcells_len ws; rw [hw] at this; simp at this; omega
    rw [this]; rfl
  · have : ws.length = k := by have := wcells_len ws; omega
    rw [this]; rfl
def wordsOf (s : List Nat) : List WD := if 1048576 < s.length then [] else match allF s with
  | .inl ws => ws
  | .inr _ => []
def faultE (s : List Nat) : Int := if 1048576 < s.length then 3 else match allF s with
  | .inl _ => 0
  | .inr (e, _) => e
def faultP (s : List Nat) : Int := if 1048576 < s.length then -1 else match allF s with
  | .inl _ => 0
  | .inr (_, p) => p
theorem allV_form {s : List Nat} {n0 : Nat} {h : H} {v : V} (hv : allV s n0 h v) : ∃ l, v = .tuple [l, .agg [.int .i64 (faultE s), .int .i64 (faultP s)]] ∧ Acc n0 h l (wcells (wordsOf s)) 36 3 := by
  unfold allV at hv
  unfold faultE faultP wordsOf
  by_cases hl : 1048576 < s.length
  · rw [if_pos hl] at hv
    rw [if_pos hl, if_pos hl, if_pos hl]
    exact ⟨_, hv, .inl ⟨rfl, rfl⟩⟩
  · rw [if_neg hl] at hv
    rw [if_neg hl, if_neg hl, if_neg hl]
    cases ha : allF s with
    | inl ws => rw [ha] at hv; exact hv
    | inr r => rw [ha] at hv; exact ⟨_, hv, .inl ⟨rfl, rfl⟩⟩
theorem allR_texts {s : List Nat} (hb : Bytes s) : ∀ (f p : Nat) (acc ws : List WD), allR s f p acc = .inl ws → (∀ w ∈ acc, Bytes w.text ∧ w.text.length ≤ s.length) → ∀ w ∈ ws, Bytes w.text ∧ w.text.length ≤ s.length
  | 0, p, acc, ws, h, ha => by
    rw [allR] at h
    cases h
    exact ha
  | f + 1, p, acc, ws, h, ha => by
    rw [allR] at h
    by_cases hp : p < s.length
    · rw [if_pos hp] at h
      by_cases h1 : (passF (s.drop p)).2 ≠ 0
      · rw [if_pos h1] at h; cases h
      rw [if_neg h1] at h
      by_cases h2 : 0 < (passF (s.drop p)).1
      · rw [if_pos h2] at h
        exact allR_texts hb f _ _ _ h ha
      rw [if_neg h2] at h
      by_cases h3 : (wordD (s.drop p)).e ≠ 0
      · rw [if_pos h3] at h; cases h
      rw [if_neg h3] at h
      refine allR_texts hb f _ _ _ h fun w hw => ?_
      rcases List.mem_append.1 hw with hw | hw
      · exact ha w hw
      · rw [List.mem_singleton.1 hw]
        have h0 : s.drop p ≠ [] := fun q => by have := congrArg List.length q; simp at this; omega
        have hk := wordD_ok h0 (hb.drop p)
        have hl := hk.2.1
        rw [List.length_drop] at hl
        exact ⟨hk.1, by show (wordD (s.drop p)).text.length ≤ _; omega⟩
    · rw [if_neg hp] at h
      cases h
      exact ha
theorem wordsOf_ok {s : List Nat} (hb : Bytes s) : (wordsOf s).length ≤ 1048576 ∧ (wordsOf s).length ≤ s.length ∧ ∀ w ∈ wordsOf s, Bytes w.text ∧ w.text.length ≤ 1048576 := by
  unfold wordsOf
  by_cases hl : 1048576 < s.length
  · rw [if_pos hl]
    exact ⟨by simp, by simp, fun w hw => by cases hw⟩
  · rw [if_neg hl]
    cases ha : allF s with
    | inr r => exact ⟨by simp, by simp, fun w hw => by cases hw⟩
    | inl ws =>
      have h1 : ws.length ≤ s.length := by have := (allF_sorted hb ha).len; omega
      refine ⟨by show ws.length ≤ _; omega, h1, fun w hw => ?_⟩
      have := allR_texts hb _ _ _ _ ha (fun w hw => by cases hw) w hw
      exact ⟨this.1, by omega⟩
theorem txt_of {ws : List WD} (h : ∀ w ∈ ws, Bytes w.text ∧ w.text.length ≤ 1048576) (i : Nat) : Bytes (txt ws i) ∧ (txt ws i).length < 2 ^ 40 := by
  unfold txt
  by_cases hi : i < ws.length
  · rw [wordAt_lt hi]
    have := h _ (List.getElem_mem hi)
    exact ⟨this.1, by omega⟩
  · rw [wordAt_ge hi]
    exact ⟨fun x hx => absurd hx List.not_mem_nil, by decide⟩
def CL.cells (c : CL) : List V := [.int .i64 c.kind, .str c.name, .str c.value]
def ccells (l : List CL) : List V := l.flatMap CL.cells
theorem ccells_len (l : List CL) : (ccells l).length = l.length * 3 := by
  induction l with
  | nil => rfl
  | cons w l ih =>
    show (CL.cells w ++ ccells l).length = _
    rw [List.length_append, ih]
    show 3 + _ = (l.length + 1) * 3
    omega
theorem ccells_app (a b : List CL) : ccells (a ++ b) = ccells a ++ ccells b := by simp [ccells]
def clsR : List WD → List WD → List CL
  | [], cur => if cur = [] then [] else [oneF cur]
  | w :: l, cur => if isCut w then (if cur = [] then [] else [oneF cur]) ++ clsR l [] else clsR l (cur ++ [w])
def clsOf (s : List Nat) : List CL := clsR (wordsOf s) []
end
end Go.Proofs.YtkibhdbmamfjcaaDoor
set_option linter.unusedSimpArgs false
set_option linter.unusedVariables false
set_option linter.defProp false
set_option maxRecDepth 10000
namespace Go.Proofs.YtkibhdbmamfjcaaDoor
open Int (reduceLE reduceLT reduceToNat)
open Nat (reduceLeDiff reduceEqDiff reduceAdd)
open Go.Proofs Go.Lx Go.Wx Go.IntWalk
noncomputable section

theorem CL.isCell (c : CL) : c.cells.all V.isCell = true := rfl
theorem clsR_len : ∀ (l cur : List WD), (clsR l cur).length ≤ l.length + 1
  | [], cur => by
    rw [clsR]
    split <;> simp
  | w :: l, cur => by
    rw [clsR]
    split
    · have := clsR_len l []
      rw [List.length_append]
      split <;> simp <;> omega
    · have := clsR_len l (cur ++ [w])
      simp; omega

theorem take_snoc {ws : List WD} {i p : Nat} (hi : i < ws.length) (hp : p ≤ i) : (ws.drop p).take (i + 1 - p) = (ws.drop p).take (i - p) ++ [ws[i]] := by
  have e : i + 1 - p = (i - p) + 1 := by omega
  have hl : i - p < (ws.drop p).length := by rw [List.length_drop]; omega
  rw [e, List.take_succ_eq_append_getElem hl, List.getElem_drop]
  congr 3
  omega
variable {S : Set0} (hS : StdE S)
include hS
theorem of_spec (s : List Nat) (h : H) (hb : Bytes s) (hs : s.length < 2 ^ 63) : Pure S.cfg 30 [.str s] h fun v h' => ∃ l, v = .tuple [l, .agg [.int .i64 (faultE s), .int .i64 (faultP s)]] ∧ Acc h.nx h' l (ccells (clsOf s)) 45 3 := by
  refine into Tryd.f30 _ Tryd.func30 (hS.ownC _ (by decide)) rfl rfl (by kernel_rfl) (by kernel_rfl) ?_
  have b1 := fun q a b c d => agg_neq 26 q a b c d rfl
  simp +contextual (disch := first | (simp only [fr]; done) | omega | (simp only [Knx]; omega) | (apply Nat.le_antisymm <;> simp only [Knx] <;> omega) | fail) only [wpy, fD, reduceLE, reduceLT, reduceLeDiff, UInt8.reduceToNat, ↓reduceIte, reduceEqDiff, reduceAdd, reduceCtorEq, reduceToNat, Tryd.f30]
  refine callF_pure (all_spec hS.toStdF s _ hb hs) ?_
  intro v1 h1 hx1 hv1
  obtain ⟨l, rfl, hl⟩ := allV_form hv1
  obtain ⟨hl1, hl2⟩ := hl.cell
  have hla := accW hl
  obtain ⟨hw0, hw1, hw2⟩ := wordsOf_ok hb
  have q1 : h.nx + 1 ≤ h1.nx := hx1.1
  have hz1 : h1.get h.nx = some (.cells [.int .i64 0, .int .i64 0] 26 false) := by rw [hx1.2 _ (Nat.lt_succ_self _)]; exact push_eq rfl
  have hX1 : Ext h h1 := ((Ext.refl h).push _).trans hx1
  have hne : ¬ h.nx = h1.nx := by omega
  by_cases hf : ¬ (faultE s = 0 ∧ faultP s = 0)
  · have hwn : wordsOf s = [] := by
      unfold faultE faultP at hf
      unfold wordsOf
      by_cases hlen : 1048576 < s.length
      · rw [if_pos hlen]
      · rw [if_neg hlen]
        rw [if_neg hlen, if_neg hlen] at hf
        cases ha : allF s with
        | inr r => rfl
        | inl ws => rw [ha] at hf; exact absurd ⟨rfl, rfl⟩ hf
    have hc : clsOf s = [] := by unfold clsOf; rw [hwn]; rfl
    rw [hc]
    simp +contextual (disch := first | (simp only [fr]; done) | omega | (simp only [Knx]; omega) | (apply Nat.le_antisymm <;> simp only [Knx] <;> omega) | exact dok (by kernel_rfl)) only [draw_calm, draw_calmA, wpy, fD, reduceLE, reduceLT, reduceLeDiff, UInt8.reduceToNat, ↓reduceIte, reduceEqDiff, reduceAdd, reduceCtorEq, reduceToNat, Tryd.f30, hl1, hl2, b1, hf, hz1, hne]
    exact ⟨.inr (by omega), ((hX1.push _).put (by omega) _).put (Nat.le_refl _) _, _, rfl, .inl ⟨rfl, rfl⟩⟩
  rw [Classical.not_not] at hf
  rw [hf.1, hf.2]
  simp +contextual (disch := first | (simp only [fr]; done) | omega | (simp only [Knx]; omega) | (apply Nat.le_antisymm <;> simp only [Knx] <;> omega) | fail) only [wpy, fD, reduceLE, reduceLT, reduceLeDiff, UInt8.reduceToNat, ↓reduceIte, reduceEqDiff, reduceAdd, reduceCtorEq, reduceToNat, Tryd.f30, hl1, hl2, b1, hf.1, hf.2, hz1, hne]
  refine ⟨.inr (by omega), ?_⟩
  obtain ⟨h2, hh2⟩ : ∃ h2, h2 = (h1.push (Ob.cells [V.int IntKind.i64 0, V.int IntKind.i64 0] 26 false)).put h1.nx (Ob.cells [V.int IntKind.i64 0, V.int IntKind.i64 0] 26 false) := ⟨_, rfl⟩
  rw [← hh2]
  have hn2 : h2.nx = h1.nx + 1 := by rw [hh2]; rfl
  have hx12 : Ext h1 h2 := by rw [hh2]; exact Ext.new _ _ _
  have hx2 : Ext h h2 := hX1.trans hx12
  have hz2 : h2.get h.nx = some (.cells [.int .i64 0, .int .i64 0] 26 false) := by rw [hx12.2 _ (by omega)]; exact hz1
  have hwd : Wds h2 l (wordsOf s) := (Wds.of_acc hl).ext hx12
  clear hh2 hl hv1
  generalize hws : wordsOf s = ws at *
  have hcl : clsR ws [] = clsOf s := by unfold clsOf; rw [hws]
  refine run_loop (fun k env h' => ∃ (i p : Nat) (A : List CL) (ov : V), k = ws.length + 1 - i ∧ i ≤ ws.length + 1 ∧ p ≤ i ∧ env 3 = .ptr h.nx 0 ∧ env 4 = l ∧ env 6 = ov ∧ env 7 = .int .i64 p ∧ env 8 = .int .i64 i ∧ Ext h2 h' ∧ Acc h2.nx h' ov (ccells A) 45 3 ∧ A.length ≤ i ∧ (i ≤ ws.length → A ++ clsR (ws.drop i) ((ws.drop p).take (i - p)) = clsOf s) ∧ (i = ws.length + 1 → A = clsOf s)) (ws.length + 1) ⟨0, 0, [], .nilslice, ?_⟩ ?_
  · simp +contextual (disch := first | (simp only [fr]; done) | omega | (simp only [Knx]; omega) | (apply Nat.le_antisymm <;> simp only [Knx] <;> omega) | fail) only [wpy, fD, reduceLE, reduceLT, reduceLeDiff, UInt8.reduceToNat, ↓reduceIte, reduceEqDiff, reduceAdd, reduceCtorEq, reduceToNat]
    exact ⟨(Nat.sub_zero _).symm, Ext.refl _, .inl ⟨rfl, rfl⟩, hcl⟩
  rintro k env h' ⟨i, p, A, ov, rfl, hi, hpi, e3, e4, e6, e7, e8, hx, hA, hAl, hc1, hc2⟩
  have ho1 := hA.cell.1
  have ho2 := hA.cell.2
  have hw' := hwd.ext hx
  have a1 := hw'.len
  have hz' : h'.get h.nx = some (.cells [.int .i64 0, .int .i64 0] 26 false) := by rw [hx.2 _ (by omega)]; exact hz2
  by_cases hle : i ≤ ws.length
  · by_cases hcut : i < ws.length ∧ ¬ isCut (wordAt ws i)
    · obtain ⟨hlt, hnc⟩ := hcut
      obtain ⟨b, o, mc, c, e, fl, rfl, hbn, hgb, w0, w1⟩ := hw'.get hlt
      rw [← wordAt_lt hlt] at w1
      have w2 : c[o + i * 3]? = some (.int .i64 (wordAt ws i).kind) := by
        have h1 := congrArg (fun l : List V => l[0]?) w1
        simpa [List.getElem?_take, List.getElem?_drop, WD.cells] using h1
      have w3 : c[o + i * 3 + 1]? = some (.str (wordAt ws i).text) := by
        have h1 := congrArg (fun l : List V => l[1]?) w1
        simpa [List.getElem?_take, List.getElem?_drop, WD.cells] using h1
      have hnc' : ¬ ((wordAt ws i).kind = 5 ∧ (wordAt ws i).text = [59]) := hnc
      simp +contextual (disch := first | (simp only [fr]; done) | omega | (simp only [Knx]; omega) | (apply Nat.le_antisymm <;> simp only [Knx] <;> omega) | fail) only [wpy, fD, reduceLE, reduceLT, reduceLeDiff, UInt8.reduceToNat, ↓reduceIte, reduceEqDiff, reduceAdd, reduceCtorEq, reduceToNat, Tryd.f30, e3, e4, e6, e7, e8, hle, a1, ho1, ho2, hlt, hgb, w2, w3, hnc']
      refine ⟨ws.length + 1 - (i + 1), by omega, i + 1, p, A, ov, rfl, by omega, by omega, rfl, rfl, rfl, hx, hA, by omega, fun _ => ?_, fun q => by omega⟩
      rw [← hc1 hle, List.drop_eq_getElem_cons hlt, clsR, if_neg (by rw [← wordAt_lt hlt]; exact hnc), take_snoc hlt hpi]
    · simp +contextual (disch := first | (simp only [fr]; done) | omega | (simp only [Knx]; omega) | (apply Nat.le_antisymm <;> simp only [Knx] <;> omega) | fail) only [wpyr, fD, reduceLE, reduceLT, reduceLeDiff, UInt8.reduceToNat, ↓reduceIte, reduceEqDiff, reduceAdd, reduceCtorEq, reduceToNat, Tryd.f30, e3, e4, e6, e7, e8, hle, a1, ho1, ho2]
      rw [run_cond]
      show condW (bo True) _ _
      rw [condW_bo]
      refine ⟨fun _ => ?_, fun q => absurd trivial q⟩
      rw [run_skip, kont_seq, run_seq, run_block, run_seq]
      refine run_cut (fun env' h'' => env' 3 = .ptr h.nx 0 ∧ env' 4 = l ∧ env' 6 = ov ∧ env' 7 = .int .i64 p ∧ env' 8 = .int .i64 i ∧ h'' = h') ?_ ?_
      · by_cases hlt : i < ws.length
        · have hc : (wordAt ws i).kind = 5 ∧ (wordAt ws i).text = [59] := Decidable.byContradiction fun q => hcut ⟨hlt, q⟩
          obtain ⟨b, o, mc, c, e, fl, rfl, hbn, hgb, w0, w1⟩ := hw'.get hlt
          rw [← wordAt_lt hlt] at w1
          have w2 : c[o + i * 3]? = some (.int .i64 (wordAt ws i).kind) := by
            have h1 := congrArg (fun l : List V => l[0]?) w1
            simpa [List.getElem?_take, List.getElem?_drop, WD.cells] using h1
          have w3 : c[o + i * 3 + 1]? = some (.str (wordAt ws i).text) := by
            have h1 := congrArg (fun l : List V => l[1]?) w1
            simpa [List.getElem?_take, List.getElem?_drop, WD.cells] using h1
          simp +contextual (disch := first | (simp only [fr]; done) | omega | (simp only [Knx]; omega) | (apply Nat.le_antisymm <;> simp only [Knx] <;> omega) | fail) only [wpy, fD, reduceLE, reduceLT, reduceLeDiff, UInt8.reduceToNat, ↓reduceIte, reduceEqDiff, reduceAdd, reduceCtorEq, reduceToNat, Tryd.f30, e3, e4, e6, e7, e8, a1, ho1, ho2, hlt, hgb, w2, w3, hc.1, hc.2]
        · simp +contextual (disch := first | (simp only [fr]; done) | omega | (simp only [Knx]; omega) | (apply Nat.le_antisymm <;> simp only [Knx] <;> omega) | fail) only [wpy, fD, reduceLE, reduceLT, reduceLeDiff, UInt8.reduceToNat, ↓reduceIte, reduceEqDiff, reduceAdd, reduceCtorEq, reduceToNat, Tryd.f30, e3, e4, e6, e7, e8, a1, ho1, ho2, hlt]
      rintro env2 h'' ⟨f3, f4, f6, f7, f8, rfl⟩
      have hrest : A ++ ((if (ws.drop p).take (i - p) = [] then [] else [oneF ((ws.drop p).take (i - p))]) ++ (if i < ws.length then clsR (ws.drop (i + 1)) [] else [])) = clsOf s := by
        rw [← hc1 hle]
        by_cases hlt : i < ws.length
        · have hc : isCut ws[i] := by rw [← wordAt_lt hlt]; exact Decidable.byContradiction fun q => hcut ⟨hlt, q⟩
          rw [if_pos hlt, List.drop_eq_getElem_cons hlt, clsR, if_pos hc]
        · rw [if_neg hlt, show ws.drop i = [] from List.drop_eq_nil_of_le (by omega), clsR, List.append_nil]
      by_cases hpi2 : p < i
      · obtain ⟨b, o, m, c, fl, rfl, hm, hbb, hgb⟩ := hw'.opened (by omega)
        simp +contextual (disch := first | (simp only [fr]; done) | omega | (simp only [Knx]; omega) | (apply Nat.le_antisymm <;> simp only [Knx] <;> omega) | fail) only [wpy, fD, reduceLE, reduceLT, reduceLeDiff, UInt8.reduceToNat, ↓reduceIte, reduceEqDiff, reduceAdd, reduceCtorEq, reduceToNat, Tryd.f30, f3, f4, f6, f7, f8, hpi2]
        refine slice_row (e := 36) (sz := 3) (b := b) (o := o) (n := ws.length) (m := m) (l := p) (hh := i) (mm := m) (by kernel_rfl) C2.sz36 (by simp +contextual (disch := first | (simp only [fr]; done) | omega | (simp only [Knx]; omega) | (apply Nat.le_antisymm <;> simp only [Knx] <;> omega) | fail) only [wpy, fD, reduceLE, reduceLT, reduceLeDiff, UInt8.reduceToNat, ↓reduceIte, reduceEqDiff, reduceAdd, reduceCtorEq, reduceToNat]) (by rw [hgb]; rfl) (fun _ => rfl) (by simp +contextual (disch := first | (simp only [fr]; done) | omega | (simp only [Knx]; omega) | (apply Nat.le_antisymm <;> simp only [Knx] <;> omega) | fail) only [wpy, fD, reduceLE, reduceLT, reduceLeDiff, UInt8.reduceToNat, ↓reduceIte, reduceEqDiff, reduceAdd, reduceCtorEq, reduceToNat]; exact bounds_both (by omega) (by omega)) (by omega) ?_
        simp +contextual (disch := first | (simp only [fr]; done) | omega | (simp only [Knx]; omega) | (apply Nat.le_antisymm <;> simp only [Knx] <;> omega) | fail) only [wpy, fD, reduceLE, reduceLT, reduceLeDiff, UInt8.reduceToNat, ↓reduceIte, reduceEqDiff, reduceAdd, reduceCtorEq, reduceToNat, Tryd.f30]
        have hpart := hw'.part p (i - p) (by omega)
        have hcl : ((ws.drop p).take (i - p)).length = i - p := by rw [List.length_take, List.length_drop]; omega
        generalize hcur : (ws.drop p).take (i - p) = cur at *
        have hcw : ∀ w ∈ cur, Bytes w.text ∧ w.text.length ≤ 1048576 := fun w hw => hw2 w (by rw [← hcur] at hw; exact List.mem_of_mem_drop (List.mem_of_mem_take hw))
        have hcn : ¬ cur = [] := fun q => by rw [q] at hcl; simp at hcl; omega
        rw [if_neg hcn] at hrest
        refine callF_pure (one_spec hS _ cur _ hpart (by omega) (fun j => (txt_of hcw j).2) (fun j => (txt_of hcw j).1)) ?_
        rintro v h4 hx4 rfl
        simp +contextual (disch := first | (simp only [fr]; done) | omega | (simp only [Knx]; omega) | (apply Nat.le_antisymm <;> simp only [Knx] <;> omega) | fail) only [wpy, fD, reduceLE, reduceLT, reduceLeDiff, UInt8.reduceToNat, ↓reduceIte, reduceEqDiff, reduceAdd, reduceCtorEq, reduceToNat, Tryd.f30, f3, f4, f6, f7, f8, CL.v]
        have hx5 : Ext h2 h4 := hx.trans hx4
        refine append_accV (sv := ov) (n0 := h2.nx) (cells := ccells A) (new := (oneF cur).cells) (b2 := h4.nx) (o2 := 0) (n := 1) (m := 1) ?_ C2.ap49 ⟨.slice 45, by kernel_rfl, rfl⟩ ((hA.ext hx4).ext ((Ext.refl h4).push (.cells (oneF cur).cells 45 false))) ?_ (by decide) ?_ rfl rfl ?_ (by decide) (fun k hk => by rw [fresh_def]; exact .inl (by omega)) ?_ (by show h2.nx ≤ h4.nx + 1; have := hx5.1; omega)
        · simp +contextual (disch := first | (simp only [fr]; done) | omega | (simp only [Knx]; omega) | (apply Nat.le_antisymm <;> simp only [Knx] <;> omega) | fail) only [wpy, fD, reduceLE, reduceLT, reduceLeDiff, UInt8.reduceToNat, ↓reduceIte, reduceEqDiff, reduceAdd, reduceCtorEq, reduceToNat, f6]
        · simp +contextual (disch := first | (simp only [fr]; done) | omega | (simp only [Knx]; omega) | (apply Nat.le_antisymm <;> simp only [Knx] <;> omega) | fail) only [wpy, fD, reduceLE, reduceLT, reduceLeDiff, UInt8.reduceToNat, ↓reduceIte, reduceEqDiff, reduceAdd, reduceCtorEq, reduceToNat]
        · rw [push_eq rfl]; exact rdC_all rfl
        · rw [ccells_len]
          show A.length * 3 + 3 ≤ _
          omega
        intro v5 h5 L hA5 hst hL
        simp +contextual (disch := first | (simp only [fr]; done) | omega | (simp only [Knx]; omega) | (apply Nat.le_antisymm <;> simp only [Knx] <;> omega) | fail) only [wpy, fD, reduceLE, reduceLT, reduceLeDiff, UInt8.reduceToNat, ↓reduceIte, reduceEqDiff, reduceAdd, reduceCtorEq, reduceToNat, Tryd.f30, f3, f4, f6, f7, f8]
        have e5 : ccells A ++ (oneF cur).cells = ccells (A ++ [oneF cur]) := by rw [ccells_app]; simp [ccells]
        rw [e5] at hA5
        have hX5 : Ext h2 h5 := StaysBut.ext (n0 := 0) (hx5.trans ((Ext.refl h4).push _)) hst ((hA.ext hx4).ext ((Ext.refl h4).push _))

        refine ⟨ws.length + 1 - (i + 1), by omega, i + 1, i + 1, A ++ [oneF cur], v5, rfl, by omega, Nat.le_refl _, rfl, rfl, rfl, hX5, hA5, by simp; omega, fun q => ?_, fun q => ?_⟩
        · rw [if_pos (by omega)] at hrest
          rw [Nat.sub_self, List.append_assoc]
          exact hrest
        · rw [if_neg (by omega), List.append_nil] at hrest
          exact hrest
      · simp +contextual (disch := first | (simp only [fr]; done) | omega | (simp only [Knx]; omega) | (apply Nat.le_antisymm <;> simp only [Knx] <;> omega) | fail) only [wpy, fD, reduceLE, reduceLT, reduceLeDiff, UInt8.reduceToNat, ↓reduceIte, reduceEqDiff, reduceAdd, reduceCtorEq, reduceToNat, Tryd.f30, f3, f4, f6, f7, f8, hpi2]
        have hcn : (ws.drop p).take (i - p) = [] := by rw [show i - p = 0 by omega]; rfl
        rw [if_pos hcn, List.nil_append] at hrest
        refine ⟨ws.length + 1 - (i + 1), by omega, i + 1, i + 1, A, ov, rfl, by omega, Nat.le_refl _, rfl, rfl, rfl, hx, hA, by omega, fun q => ?_, fun q => ?_⟩
        · rw [if_pos (by omega)] at hrest
          rw [Nat.sub_self]
          exact hrest
        · rw [if_neg (by omega), List.append_nil] at hrest
          exact hrest
  · have hi' : i = ws.length + 1 := by omega
    rw [← hc2 hi']
    simp +contextual (disch := first | (simp only [fr]; done) | omega | (simp only [Knx]; omega) | (apply Nat.le_antisymm <;> simp only [Knx] <;> omega) | fail) only [wpy, fD, reduceLE, reduceLT, reduceLeDiff, UInt8.reduceToNat, ↓reduceIte, reduceEqDiff, reduceAdd, reduceCtorEq, reduceToNat, Tryd.f30, e3, e4, e6, e7, e8, hle, a1, ho1, ho2, hz']
    refine ⟨(hx2.trans hx).put (Nat.le_refl _) _, ov, rfl, ?_⟩
    have hB : Acc h2.nx (h'.put h.nx (Ob.cells [V.int IntKind.i64 0, V.int IntKind.i64 0] 26 false)) ov (ccells A) 45 3 := hA.stay (Nat.le_refl _) fun k hk _ => put_ne (by omega)
    rcases hB with hB | ⟨b, n, hb0, hB⟩
    · exact .inl hB
    · exact .inr ⟨b, n, by omega, hB⟩
end
end Go.Proofs.YtkibhdbmamfjcaaDoor
set_option linter.unusedSimpArgs false
set_option linter.unusedVariables false
set_option linter.defProp false
set_option maxRecDepth 10000
namespace Go.Proofs.YtkibhdbmamfjcaaDoor
open Int (reduceLE reduceLT reduceToNat)
open Nat (reduceLeDiff reduceEqDiff reduceAdd)
open Go.Proofs Go.Lx Go.Wx Go.IntWalk
noncomputable section
def CR (h : H) (v : V) (cs : List CL) : Prop := (v = .nilslice ∧ cs = []) ∨ ∃ b m e fl, v = .slice b 0 cs.length m ∧ b < h.nx ∧ h.get b = some (.cells (ccells cs) e fl)
theorem CR.ext {h h' : H} {v : V} {cs : List CL} (hc : CR h v cs) (hx : Ext h h') : CR h' v cs := by
  rcases hc with q | ⟨b, m, e, fl, h1, h2, h3⟩
  · exact .inl q
  · exact .inr ⟨b, m, e, fl, h1, Nat.lt_of_lt_of_le h2 hx.1, by rw [hx.2 b h2]; exact h3⟩
theorem CR.cell {h : H} {v : V} {cs : List CL} (hc : CR h v cs) : v.cells = [v] ∧ v.isCell = true := by
  rcases hc with ⟨rfl, _⟩ | ⟨b, m, e, fl, rfl, _⟩ <;> exact ⟨rfl, rfl⟩
theorem CR.len {h : H} {v : V} {cs : List CL} (hc : CR h v cs) : lenO (some (.slice 45)) v = some (.int .i64 cs.length) := by
  rcases hc with ⟨rfl, rfl⟩ | ⟨b, m, e, fl, rfl, _⟩ <;> rfl
theorem CR.of_acc {n0 : Nat} {h : H} {v : V} {cs : List CL} (ha : Acc n0 h v (ccells cs) 45 3) : CR h v cs := by
  rcases ha with ⟨rfl, hw⟩ | ⟨b, k, _, hb2, rfl, _, hg, hk⟩
  · refine .inl ⟨rfl, ?_⟩
    have := ccells_len cs
    rw [hw] at this
    exact List.eq_nil_of_length_eq_zero (by simp at this; omega)
  · have hl := ccells_len cs
    obtain rfl : k = cs.length := by omega
    exact .inr ⟨b, _, 45, true, rfl, hb2, hg⟩
theorem ccells_drop : ∀ (cs : List CL) (i : Nat), (ccells cs).drop (i * 3) = ccells (cs.drop i)
  | cs, 0 => by simp
  | [], i + 1 => by simp [ccells]
  | w :: l, i + 1 => by
    have ih := ccells_drop l i
    rw [show (i + 1) * 3 = 3 + i * 3 by omega, List.drop_succ_cons, ← ih, show ccells (w :: l) = w.cells ++ ccells l from rfl, ← List.drop_drop]
    rfl
theorem ccells_row {cs : List CL} {i : Nat} (hi : i < cs.length) : ((ccells cs).drop (i * 3)).take 3 = cs[i].cells := by
  rw [ccells_drop, List.drop_eq_getElem_cons hi]
  rfl
theorem cls_same (q : Bool) (k : Int) (a b : List Nat) : binV Tryd.prog .neq 45 q (.agg [.int .i64 k, .str a, .str b]) (.agg [.int .i64 k, .str a, .str b]) = some (bo False) := by
  have e1 : binV Tryd.prog .neq 45 q (.agg [.int .i64 k, .str a, .str b]) (.agg [.int .i64 k, .str a, .str b]) = eqOpV Tryd.prog .neq 45 (.agg [.int .i64 k, .str a, .str b]) (.agg [.int .i64 k, .str a, .str b]) := rfl
  have e2 : eqT Tryd.prog 45 (.agg [.int .i64 k, .str a, .str b]) (.agg [.int .i64 k, .str a, .str b]) = (match some (k == k) with
    | some true => (match some (eqNats a a) with
      | some true => (match some (eqNats b b) with
        | some true => some true
        | r => r)
      | r => r)
    | r => r) := by kernel_rfl
  rw [e1, eqOpV, e2]
  simp [bo, (Lx.eqNats_iff.2 rfl : eqNats a a = true), (Lx.eqNats_iff.2 rfl : eqNats b b = true)]

variable {S : Set0} (hS : StdE S)
include hS
theorem sameCls_spec (h : H) (l m : V) (cs : List CL) (hl : CR h l cs) (hm : CR h m cs) (hw : cs.length < 2 ^ 40) : Pure S.cfg 36 [l, m] h fun v _ => v = .bool true := by
  refine into Tryd.f36 _ Tryd.func36 (hS.ownC _ (by decide)) rfl rfl (by kernel_rfl) (by kernel_rfl) ?_
  have a1 := hl.len
  have a2 := hm.len
  have c1 := hl.cell.1
  have c2 := hl.cell.2
  have c3 := hm.cell.1
  have c4 := hm.cell.2
  simp +contextual (disch := first | (simp only [fr]; done) | omega | (simp only [Knx]; omega) | (apply Nat.le_antisymm <;> simp only [Knx] <;> omega) | fail) only [wpy, fD, reduceLE, reduceLT, reduceLeDiff, UInt8.reduceToNat, ↓reduceIte, reduceEqDiff, reduceAdd, reduceCtorEq, reduceToNat, Tryd.f36, a1, a2, c1, c2, c3, c4]
  refine run_loop (fun k env h' => ∃ i : Nat, k = cs.length - i ∧ env 0 = l ∧ env 1 = m ∧ env 5 = .int .i64 i ∧ i ≤ cs.length ∧ Ext h h') cs.length ⟨0, by simp +contextual (disch := first | (simp only [fr]; done) | omega | (simp only [Knx]; omega) | (apply Nat.le_antisymm <;> simp only [Knx] <;> omega) | fail) only [wpy, fD, reduceLE, reduceLT, reduceLeDiff, UInt8.reduceToNat, ↓reduceIte, reduceEqDiff, reduceAdd, reduceCtorEq, reduceToNat]; exact ⟨(Nat.sub_zero _).symm, Ext.refl _⟩⟩ ?_
  rintro k env h' ⟨i, rfl, e0, e1, e5, hi, hx⟩
  by_cases hi2 : i < cs.length
  · rcases hl.ext hx with ⟨_, q⟩ | ⟨b, mm, e, fl, rfl, hb, hgb⟩
    · rw [q] at hi2; cases hi2
    rcases hm.ext hx with ⟨_, q⟩ | ⟨b', mm', e', fl', rfl, hb', hgb'⟩
    · rw [q] at hi2; cases hi2
    have w0 := ccells_row hi2
    have w1 : i * 3 + 3 ≤ (ccells cs).length := by rw [ccells_len]; omega
    have hc : cs[i].cells = [.int .i64 cs[i].kind, .str cs[i].name, .str cs[i].value] := rfl
    rw [hc] at w0
    simp +contextual (disch := first | (simp only [fr]; done) | omega | (simp only [Knx]; omega) | (apply Nat.le_antisymm <;> simp only [Knx] <;> omega) | exact dok (by kernel_rfl)) only [draw_calm, draw_calmA, wpy, fD, reduceLE, reduceLT, reduceLeDiff, UInt8.reduceToNat, ↓reduceIte, reduceEqDiff, reduceAdd, reduceCtorEq, reduceToNat, Tryd.f36, e0, e1, e5, hi2, hgb, hgb', w0, w1, Nat.zero_add, cls_same]
    exact ⟨cs.length - (i + 1), by omega, i + 1, rfl, rfl, by omega, hx⟩
  · simp +contextual (disch := first | (simp only [fr]; done) | omega | (simp only [Knx]; omega) | (apply Nat.le_antisymm <;> simp only [Knx] <;> omega) | fail) only [wpy, fD, reduceLE, reduceLT, reduceLeDiff, UInt8.reduceToNat, ↓reduceIte, reduceEqDiff, reduceAdd, reduceCtorEq, reduceToNat, Tryd.f36, e0, e1, e5, hi2, a1, a2]
    exact hx
theorem isCls_spec (s : List Nat) (m : V) (cs : List CL) (h : H) (hb : Bytes s) (hs : s.length < 2 ^ 63) (hm : CR h m cs) (hf : faultE s = 0 ∧ faultP s = 0) (hc : clsOf s = cs) (hw : cs.length < 2 ^ 40) : Pure S.cfg 31 [.str s, m] h fun v _ => v = .bool true := by
  refine into Tryd.f31 _ Tryd.func31 (hS.ownC _ (by decide)) rfl rfl (by kernel_rfl) (by kernel_rfl) ?_
  have b1 := fun q a b c d => agg_eql 26 q a b c d rfl
  simp +contextual (disch := first | (simp only [fr]; done) | omega | (simp only [Knx]; omega) | (apply Nat.le_antisymm <;> simp only [Knx] <;> omega) | fail) only [wpy, fD, reduceLE, reduceLT, reduceLeDiff, UInt8.reduceToNat, ↓reduceIte, reduceEqDiff, reduceAdd, reduceCtorEq, reduceToNat, Tryd.f31]
  refine callF_pure (of_spec hS s _ hb hs) ?_
  rintro v1 h1 hx1 ⟨l, rfl, hl⟩
  obtain ⟨hl1, hl2⟩ := hl.cell
  rw [hc] at hl
  have hC : CR h1 l cs := .of_acc hl
  simp +contextual (disch := first | (simp only [fr]; done) | omega | (simp only [Knx]; omega) | (apply Nat.le_antisymm <;> simp only [Knx] <;> omega) | fail) only [wpy, fD, reduceLE, reduceLT, reduceLeDiff, UInt8.reduceToNat, ↓reduceIte, reduceEqDiff, reduceAdd, reduceCtorEq, reduceToNat, Tryd.f31, hl1, hl2, b1, hf.1, hf.2]
  refine ⟨.inr hx1.1, ?_⟩
  have hx2 : Ext h1 ((h1.push (Ob.cells [V.int IntKind.i64 0, V.int IntKind.i64 0] 26 false)).put h1.nx (Ob.cells [V.int IntKind.i64 0, V.int IntKind.i64 0] 26 false)) := Ext.new _ _ _
  refine callF_pure (sameCls_spec hS _ l m cs (hC.ext hx2) ((hm.ext hx1).ext hx2) hw) ?_
  rintro v h3 hx3 rfl
  simp +contextual (disch := first | (simp only [fr]; done) | omega | (simp only [Knx]; omega) | (apply Nat.le_antisymm <;> simp only [Knx] <;> omega) | fail) only [wpy, fD, reduceLE, reduceLT, reduceLeDiff, UInt8.reduceToNat, ↓reduceIte, reduceEqDiff, reduceAdd, reduceCtorEq, reduceToNat, Tryd.f31]
  exact hx1.trans (hx2.trans hx3)
end
end Go.Proofs.YtkibhdbmamfjcaaDoor
set_option linter.unusedSimpArgs false
set_option linter.unusedVariables false
set_option linter.defProp false
set_option maxRecDepth 10000
namespace Go.Proofs.YtkibhdbmamfjcaaDoor
open Int (reduceLE reduceLT reduceToNat)
open Nat (reduceLeDiff reduceEqDiff reduceAdd)
open Go.Proofs Go.Lx Go.Wx Go.IntWalk
noncomputable section

def fine0 (s : List Nat) : Prop := faultE s = 0 ∧ faultP s = 0
theorem cls_len {s : List Nat} (hb : Bytes s) : (clsOf s).length ≤ s.length + 1 := by
  have h1 := clsR_len (wordsOf s) []
  have h2 := (wordsOf_ok hb).2.1
  unfold clsOf
  omega
variable {S : Set0} (hS : StdE S)
include hS
end
end Go.Proofs.YtkibhdbmamfjcaaDoor
