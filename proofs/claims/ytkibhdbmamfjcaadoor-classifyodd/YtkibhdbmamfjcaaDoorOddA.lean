/-
  Several texts of one walk, joined.
-/
import Derived.Test.YtkibhdbmamfjcaaDoorProg
import Derived.Test.YtkibhdbmamfjcaaDoorWxZ
import Derived.Test.YtkibhdbmamfjcaaDoorScanC
/-
  Facts of types and shapes of the program of this seat, for the rules.
-/
set_option linter.unusedSimpArgs false
set_option linter.unusedVariables false
set_option linter.defProp false
namespace Go.Proofs.YtkibhdbmamfjcaaDoor
open Go.Proofs Go.Lx Go.Wx
noncomputable section
namespace C2

theorem ze26 : zeroL Tryd.prog 26 = some [.int .i64 0, .int .i64 0] := by kernel_rfl
theorem sz26 : szT Tryd.prog 26 = some 2 := by kernel_rfl
theorem ty26 : tyR Tryd.prog 26 = some (2, true) := by kernel_rfl
theorem bu26 : buildV Tryd.prog 26 [] = some (.agg [.int .i64 0, .int .i64 0]) := by kernel_rfl
-- eq on type 26
theorem bs29_11 (v0_0 v1_0 v2_0 v3_0 v4_0 v5_0 v6_0 v7_0 v8_0 v9_0 v10_0 : V) : buildSliceL Tryd.prog 29 11 [(0, [v0_0]), (1, [v1_0]), (2, [v2_0]), (3, [v3_0]), (4, [v4_0]), (5, [v5_0]), (6, [v6_0]), (7, [v7_0]), (8, [v8_0]), (9, [v9_0]), (10, [v10_0])] = some ([v0_0, v1_0, v2_0, v3_0, v4_0, v5_0, v6_0, v7_0, v8_0, v9_0, v10_0], 9) := by kernel_rfl
theorem ia29 (k o n m : Nat) (kd : IntKind) (i : Int) : indexAddrV Tryd.prog 29 (.slice k o n m) (.int kd i) = if 0 ≤ i ∧ i < n then some (.ptr k (o + i.toNat * 1)) else none := indexAddr_slice (e := 9) (by kernel_rfl) (by kernel_rfl) k o n m kd i
theorem ty9 : tyR Tryd.prog 9 = some (1, false) := by kernel_rfl
theorem bu36_0_1 (v0_0 v1_0 : V) : buildV Tryd.prog 36 [(0, [v0_0]), (1, [v1_0])] = some (.agg [v0_0, v1_0, .int .i64 0]) := by kernel_rfl
theorem ze36 : zeroL Tryd.prog 36 = some [.int .i64 0, .str [], .int .i64 0] := by kernel_rfl
theorem sz36 : szT Tryd.prog 36 = some 3 := by kernel_rfl
theorem bs23_0 : buildSliceL Tryd.prog 23 0 [] = some ([], 36) := by kernel_rfl
theorem ap23 : apI Tryd.prog 23 = some (36, 3, 32) := by kernel_rfl
theorem ty36 : tyR Tryd.prog 36 = some (3, true) := by kernel_rfl
theorem bs23_1 (v0_0 v0_1 v0_2 : V) : buildSliceL Tryd.prog 23 1 [(0, [v0_0, v0_1, v0_2])] = some ([v0_0, v0_1, v0_2], 36) := by kernel_rfl
-- eq on type 45
theorem ty45 : tyR Tryd.prog 45 = some (3, true) := by kernel_rfl
theorem ze45 : zeroL Tryd.prog 45 = some [.int .i64 0, .str [], .str []] := by kernel_rfl
theorem ia23 (k o n m : Nat) (kd : IntKind) (i : Int) : indexAddrV Tryd.prog 23 (.slice k o n m) (.int kd i) = if 0 ≤ i ∧ i < n then some (.ptr k (o + i.toNat * 3)) else none := indexAddr_slice (e := 36) (by kernel_rfl) (by kernel_rfl) k o n m kd i
theorem fa36_0 (k o : Nat) : fieldAddrV Tryd.prog 36 (.ptr k o) 0 = some (.ptr k (o + 0)) := by kernel_rfl
theorem ty3 : tyR Tryd.prog 3 = some (1, false) := by kernel_rfl
theorem fa36_1 (k o : Nat) : fieldAddrV Tryd.prog 36 (.ptr k o) 1 = some (.ptr k (o + 1)) := by kernel_rfl
theorem bu45_0 (v0_0 : V) : buildV Tryd.prog 45 [(0, [v0_0])] = some (.agg [v0_0, .str [], .str []]) := by kernel_rfl
theorem sz45 : szT Tryd.prog 45 = some 3 := by kernel_rfl
theorem bs76_3 (v0_0 v1_0 v2_0 : V) : buildSliceL Tryd.prog 76 3 [(0, [v0_0]), (1, [v1_0]), (2, [v2_0])] = some ([v0_0, v1_0, v2_0], 75) := by kernel_rfl
theorem ia76 (k o n m : Nat) (kd : IntKind) (i : Int) : indexAddrV Tryd.prog 76 (.slice k o n m) (.int kd i) = if 0 ≤ i ∧ i < n then some (.ptr k (o + i.toNat * 1)) else none := indexAddr_slice (e := 75) (by kernel_rfl) (by kernel_rfl) k o n m kd i
theorem ty75 : tyR Tryd.prog 75 = some (1, false) := by kernel_rfl
theorem bu45_0_1 (v0_0 v1_0 : V) : buildV Tryd.prog 45 [(0, [v0_0]), (1, [v1_0])] = some (.agg [v0_0, v1_0, .str []]) := by kernel_rfl
theorem bs49_1 (v0_0 v0_1 v0_2 : V) : buildSliceL Tryd.prog 49 1 [(0, [v0_0, v0_1, v0_2])] = some ([v0_0, v0_1, v0_2], 45) := by kernel_rfl
theorem ap49 : apI Tryd.prog 49 = some (45, 3, 40) := by kernel_rfl
theorem fa45_0 (k o : Nat) : fieldAddrV Tryd.prog 45 (.ptr k o) 0 = some (.ptr k (o + 0)) := by kernel_rfl
theorem fa45_1 (k o : Nat) : fieldAddrV Tryd.prog 45 (.ptr k o) 1 = some (.ptr k (o + 1)) := by kernel_rfl
theorem fa45_2 (k o : Nat) : fieldAddrV Tryd.prog 45 (.ptr k o) 2 = some (.ptr k (o + 2)) := by kernel_rfl
theorem bs29_2 (v0_0 v1_0 : V) : buildSliceL Tryd.prog 29 2 [(0, [v0_0]), (1, [v1_0])] = some ([v0_0, v1_0], 9) := by kernel_rfl
theorem bs29_3 (v0_0 v1_0 v2_0 : V) : buildSliceL Tryd.prog 29 3 [(0, [v0_0]), (1, [v1_0]), (2, [v2_0])] = some ([v0_0, v1_0, v2_0], 9) := by kernel_rfl
theorem bs29_4 (v0_0 v1_0 v2_0 v3_0 : V) : buildSliceL Tryd.prog 29 4 [(0, [v0_0]), (1, [v1_0]), (2, [v2_0]), (3, [v3_0])] = some ([v0_0, v1_0, v2_0, v3_0], 9) := by kernel_rfl
theorem bu45 : buildV Tryd.prog 45 [] = some (.agg [.int .i64 0, .str [], .str []]) := by kernel_rfl
theorem fa115_1 (k o : Nat) : fieldAddrV Tryd.prog 115 (.ptr k o) 1 = some (.ptr k (o + 1)) := by kernel_rfl
theorem bu45_0_1_2 (v0_0 v1_0 v2_0 : V) : buildV Tryd.prog 45 [(0, [v0_0]), (1, [v1_0]), (2, [v2_0])] = some (.agg [v0_0, v1_0, v2_0]) := by kernel_rfl
theorem fa115_0 (k o : Nat) : fieldAddrV Tryd.prog 115 (.ptr k o) 0 = some (.ptr k (o + 0)) := by kernel_rfl
theorem ty23 : tyR Tryd.prog 23 = some (1, false) := by kernel_rfl
theorem sz3 : szT Tryd.prog 3 = some 1 := by kernel_rfl
theorem bu115_0 (v0_0 : V) : buildV Tryd.prog 115 [(0, [v0_0])] = some (.agg [v0_0, .int .i64 0]) := by kernel_rfl
theorem bs29_13 (v0_0 v1_0 v2_0 v3_0 v4_0 v5_0 v6_0 v7_0 v8_0 v9_0 v10_0 v11_0 v12_0 : V) : buildSliceL Tryd.prog 29 13 [(0, [v0_0]), (1, [v1_0]), (2, [v2_0]), (3, [v3_0]), (4, [v4_0]), (5, [v5_0]), (6, [v6_0]), (7, [v7_0]), (8, [v8_0]), (9, [v9_0]), (10, [v10_0]), (11, [v11_0]), (12, [v12_0])] = some ([v0_0, v1_0, v2_0, v3_0, v4_0, v5_0, v6_0, v7_0, v8_0, v9_0, v10_0, v11_0, v12_0], 9) := by kernel_rfl
theorem bs29_9 (v0_0 v1_0 v2_0 v3_0 v4_0 v5_0 v6_0 v7_0 v8_0 : V) : buildSliceL Tryd.prog 29 9 [(0, [v0_0]), (1, [v1_0]), (2, [v2_0]), (3, [v3_0]), (4, [v4_0]), (5, [v5_0]), (6, [v6_0]), (7, [v7_0]), (8, [v8_0])] = some ([v0_0, v1_0, v2_0, v3_0, v4_0, v5_0, v6_0, v7_0, v8_0], 9) := by kernel_rfl
theorem bs120_4 (v0_0 v1_0 v2_0 v3_0 : V) : buildSliceL Tryd.prog 120 4 [(0, [v0_0]), (1, [v1_0]), (2, [v2_0]), (3, [v3_0])] = some ([v0_0, v1_0, v2_0, v3_0], 29) := by kernel_rfl
theorem ia120 (k o n m : Nat) (kd : IntKind) (i : Int) : indexAddrV Tryd.prog 120 (.slice k o n m) (.int kd i) = if 0 ≤ i ∧ i < n then some (.ptr k (o + i.toNat * 1)) else none := indexAddr_slice (e := 29) (by kernel_rfl) (by kernel_rfl) k o n m kd i
theorem ty29 : tyR Tryd.prog 29 = some (1, false) := by kernel_rfl
theorem bu144 : buildV Tryd.prog 144 [] = some (.agg []) := by kernel_rfl
theorem ze144 : zeroL Tryd.prog 144 = some [] := by kernel_rfl
theorem sz144 : szT Tryd.prog 144 = some 0 := by kernel_rfl
theorem bu36 : buildV Tryd.prog 36 [] = some (.agg [.int .i64 0, .str [], .int .i64 0]) := by kernel_rfl
theorem by41 : byteS Tryd.prog 41 = true := by kernel_rfl
theorem el41 : elemS Tryd.prog 41 = 5 := by kernel_rfl
theorem ia41 (k o n m : Nat) (kd : IntKind) (i : Int) : indexAddrV Tryd.prog 41 (.slice k o n m) (.int kd i) = if 0 ≤ i ∧ i < n then some (.ptr k (o + i.toNat * 1)) else none := indexAddr_slice (e := 5) (by kernel_rfl) (by kernel_rfl) k o n m kd i
theorem ty5 : tyR Tryd.prog 5 = some (1, false) := by kernel_rfl
theorem sz5 : szT Tryd.prog 5 = some 1 := by kernel_rfl
noncomputable def factsT := And.intro @Tryd.underlying3 <| And.intro @Tryd.underlying4 <| And.intro @Tryd.underlying9 <| And.intro @Tryd.underlying23 <| And.intro @Tryd.underlying26 <| And.intro @Tryd.underlying29 <| And.intro @Tryd.underlying36 <| And.intro @Tryd.underlying41 <| And.intro @Tryd.underlying45 <| And.intro @Tryd.underlying49 <| And.intro @Tryd.underlying76 <| And.intro @Tryd.underlying78 <| And.intro @Tryd.underlying109 <| And.intro @Tryd.underlying120 <| And.intro @ze26 <| And.intro @sz26 <| And.intro @ty26 <| And.intro @bu26 <| And.intro @bs29_11 <| And.intro @ia29 <| And.intro @ty9 <| And.intro @bu36_0_1 <| And.intro @ze36 <| And.intro @sz36 <| And.intro @bs23_0 <| And.intro @ap23 <| And.intro @ty36 <| And.intro @bs23_1 <| And.intro @ty45 <| And.intro @ze45 <| And.intro @ia23 <| And.intro @fa36_0 <| And.intro @ty3 <| And.intro @fa36_1 <| And.intro @bu45_0 <| And.intro @sz45 <| And.intro @bs76_3 <| And.intro @ia76 <| And.intro @ty75 <| And.intro @bu45_0_1 <| And.intro @bs49_1 <| And.intro @ap49 <| And.intro @fa45_0 <| And.intro @fa45_1 <| And.intro @fa45_2 <| And.intro @bs29_2 <| And.intro @bs29_3 <| And.intro @bs29_4 <| And.intro @bu45 <| And.intro @fa115_1 <| And.intro @bu45_0_1_2 <| And.intro @fa115_0 <| And.intro @ty23 <| And.intro @sz3 <| And.intro @bu115_0 <| And.intro @bs29_13 <| And.intro @bs29_9 <| And.intro @bs120_4 <| And.intro @ia120 <| And.intro @ty29 <| And.intro @bu144 <| And.intro @ze144 <| And.intro @sz144 <| And.intro @bu36 <| And.intro @by41 <| And.intro @el41 <| And.intro @ia41 <| And.intro @ty5 <| @sz5

end C2
end
end Go.Proofs.YtkibhdbmamfjcaaDoor

/-
  classify: the reader of words, and the sets of names, walked.
-/
set_option linter.unusedSimpArgs false
set_option linter.unusedVariables false
set_option linter.defProp false
set_option maxRecDepth 10000
namespace Go.Proofs.YtkibhdbmamfjcaaDoor
open Go.Proofs Go.Lx Go.Wx Go.IntWalk
noncomputable section

noncomputable def factsC := And.intro @facts <| @C2.factsT

/-- what a reader's call leaves: new blocks, and the reader's own one -/
def But (r : Nat) (h h' : H) : Prop := h.nx ≤ h'.nx ∧ ∀ k, k < h.nx → k ≠ r → h'.get k = h.get k
theorem But.refl (r : Nat) (h : H) : But r h h := ⟨Nat.le_refl _, fun _ _ _ => rfl⟩
theorem But.trans {r : Nat} {a b c : H} (x : But r a b) (y : But r b c) : But r a c := ⟨Nat.le_trans x.1 y.1, fun k hk hr => by rw [y.2 k (Nat.lt_of_lt_of_le hk x.1) hr, x.2 k hk hr]⟩
theorem But.of_ext {r : Nat} {a b : H} (x : Ext a b) : But r a b := ⟨x.1, fun k hk _ => x.2 k hk⟩
theorem But.put {r : Nat} {a b : H} (x : But r a b) (o : Ob) : But r a (b.put r o) := ⟨x.1, fun k hk hr => by rw [put_get, if_neg hr, x.2 k hk hr]⟩
theorem Ext.but {r : Nat} {a b c : H} (x : Ext a b) (y : But r b c) (hr : a.nx ≤ r) : Ext a c := ⟨Nat.le_trans x.1 y.1, fun k hk => by rw [y.2 k (Nat.lt_of_lt_of_le hk x.1) (by omega), x.2 k hk]⟩
theorem goodTs {l : List (List Nat)} (h : (l.all fun s => !s.isEmpty && s.all fun b => Nat.blt b 256) = true) : ∀ s ∈ l, 0 < s.length ∧ Bytes s := by
  intro s hs
  have h1 := List.all_eq_true.1 h s hs
  rw [Bool.and_eq_true] at h1
  refine ⟨?_, fun b hb => ?_⟩
  · cases s with
    | nil => exact absurd h1.1 (by decide)
    | cons _ _ => exact Nat.succ_pos _
  · exact blt_iff.1 (List.all_eq_true.1 h1.2 b hb)

/-- a row of words, somewhere in a block -/
def Wds (h : H) (v : V) (ws : List WD) : Prop := (v = .nilslice ∧ ws = []) ∨ ∃ b o m c e fl, v = .slice b o ws.length m ∧ b < h.nx ∧ h.get b = some (.cells c e fl) ∧ ∀ i (hi : i < ws.length), o + i * 3 + 3 ≤ c.length ∧ (c.drop (o + i * 3)).take 3 = ws[i].cells
theorem Wds.but {h h' : H} {v : V} {ws : List WD} {r : Nat} (hw : Wds h v ws) (hx : But r h h') (hr : ∀ o n m, v ≠ .slice r o n m) : Wds h' v ws := by
  rcases hw with h1 | ⟨b, o, m, c, e, fl, rfl, hb, hg, hc⟩
  · exact .inl h1
  · exact .inr ⟨b, o, m, c, e, fl, rfl, Nat.lt_of_lt_of_le hb hx.1, by rw [hx.2 b hb fun e => hr o ws.length m (by rw [e])]; exact hg, hc⟩
theorem Wds.ext {h h' : H} {v : V} {ws : List WD} (hw : Wds h v ws) (hx : Ext h h') : Wds h' v ws := by
  rcases hw with h1 | ⟨b, o, m, c, e, fl, rfl, hb, hg, hc⟩
  · exact .inl h1
  · exact .inr ⟨b, o, m, c, e, fl, rfl, Nat.lt_of_lt_of_le hb hx.1, by rw [hx.2 b hb]; exact hg, hc⟩
theorem Wds.cell {h : H} {v : V} {ws : List WD} (hw : Wds h v ws) : v.isCell = true ∧ v.cells = [v] := by
  rcases hw with ⟨rfl, _⟩ | ⟨b, o, m, c, e, fl, rfl, _⟩ <;> exact ⟨rfl, rfl⟩
theorem Wds.len {h : H} {v : V} {ws : List WD} (hw : Wds h v ws) : lenO (some (.slice 36)) v = some (.int .i64 ws.length) := by
  rcases hw with ⟨rfl, rfl⟩ | ⟨b, o, m, c, e, fl, rfl, _⟩ <;> rfl
theorem Wds.get {h : H} {v : V} {ws : List WD} (hw : Wds h v ws) {i : Nat} (hi : i < ws.length) : ∃ b o m c e fl, v = .slice b o ws.length m ∧ b < h.nx ∧ h.get b = some (.cells c e fl) ∧ o + i * 3 + 3 ≤ c.length ∧ (c.drop (o + i * 3)).take 3 = ws[i].cells := by
  rcases hw with ⟨rfl, rfl⟩ | ⟨b, o, m, c, e, fl, rfl, hb, hg, hc⟩
  · simp at hi
  · exact ⟨b, o, m, c, e, fl, rfl, hb, hg, (hc i hi).1, (hc i hi).2⟩
theorem Wds.of_acc {n0 : Nat} {h : H} {v : V} {ws : List WD} (ha : Wx.Acc n0 h v (wcells ws) 36 3) : Wds h v ws := by
  rcases ha with ⟨rfl, hw⟩ | ⟨b, k, _, hb2, rfl, _, hg, hk⟩
  · refine .inl ⟨rfl, ?_⟩
    have := wcells_len ws
    rw [hw] at this
    exact List.eq_nil_of_length_eq_zero (by simp at this; omega)
  · have hl := wcells_len ws
    obtain rfl : k = ws.length := by omega
    refine .inr ⟨b, 0, ws.length, wcells ws, 36, true, rfl, hb2, hg, fun i hi => ?_⟩
    refine ⟨by omega, ?_⟩
    rw [Nat.zero_add, wcells_drop, List.drop_eq_getElem_cons hi]
    rfl

/-- the next word -/
def wordAt (ws : List WD) (a : Nat) : WD := ws[a]?.getD ⟨0, [], 0⟩
theorem wordAt_lt {ws : List WD} {a : Nat} (h : a < ws.length) : wordAt ws a = ws[a] := by simp [wordAt, List.getElem?_eq_getElem h]
theorem wordAt_ge {ws : List WD} {a : Nat} (h : ¬ a < ws.length) : wordAt ws a = ⟨0, [], 0⟩ := by simp [wordAt, List.getElem?_eq_none (by omega : ws.length ≤ a)]
/-- the kind that a text asks for -/
def kindOf (s : List Nat) : Nat := if 97 ≤ s.getD 0 0 ∧ s.getD 0 0 ≤ 122 then 1 else 5
/-- is a text next? -/
def isC (ws : List WD) (a : Nat) (s : List Nat) : Prop := (wordAt ws a).kind = kindOf s ∧ (wordAt ws a).text = s
noncomputable instance (ws : List WD) (a : Nat) (s : List Nat) : Decidable (isC ws a s) := Classical.propDecidable _
theorem isC_lt {ws : List WD} {a : Nat} {s : List Nat} (h : isC ws a s) : a < ws.length := by
  apply Decidable.byContradiction
  intro hn
  have h1 := h.1
  rw [wordAt_ge hn] at h1
  unfold kindOf at h1
  split at h1 <;> cases h1
/-- are texts next, all of them? -/
def allC (ws : List WD) (a : Nat) (l : List (List Nat)) : Prop := ∀ i (hi : i < l.length), isC ws (a + i) l[i]
/-- is one of some texts next? -/
def anyC (ws : List WD) (a : Nat) (l : List (List Nat)) : Prop := ∃ s ∈ l, isC ws a s
noncomputable instance (ws : List WD) (a : Nat) (l : List (List Nat)) : Decidable (allC ws a l) := Classical.propDecidable _
noncomputable instance (ws : List WD) (a : Nat) (l : List (List Nat)) : Decidable (anyC ws a l) := Classical.propDecidable _


def oddL : List (List Nat) := [[108,97,115,116,95,105,110,115,101,114,116,95,105,100], [102,111,117,110,100,95,114,111,119,115], [114,111,119,95,99,111,117,110,116], [99,111,110,110,101,99,116,105,111,110,95,105,100], [103,101,116,95,100,105,97,103,110,111,115,116,105,99,115], [119,97,114,110,105,110,103,115], [101,114,114,111,114,115], [112,114,111,102,105,108,101], [112,114,111,102,105,108,101,115], [111,117,116,102,105,108,101], [100,117,109,112,102,105,108,101], [112,114,101,112,97,114,101], [101,120,101,99,117,116,101], [100,101,97,108,108,111,99,97,116,101], [104,97,110,100,108,101,114], [99,97,108,108], [120,97], [100,111], [115,113,108,95,99,97,108,99,95,102,111,117,110,100,95,114,111,119,115]]
def oddT : List Nat := [108,97,115,116,95,105,110,115,101,114,116,95,105,100,32,102,111,117,110,100,95,114,111,119,115,32,114,111,119,95,99,111,117,110,116,32,99,111,110,110,101,99,116,105,111,110,95,105,100,32,103,101,116,95,100,105,97,103,110,111,115,116,105,99,115,32,119,97,114,110,105,110,103,115,32,101,114,114,111,114,115,32,112,114,111,102,105,108,101,32,112,114,111,102,105,108,101,115,32,111,117,116,102,105,108,101,32,100,117,109,112,102,105,108,101,32,112,114,101,112,97,114,101,32,101,120,101,99,117,116,101,32,100,101,97,108,108,111,99,97,116,101,32,104,97,110,100,108,101,114,32,99,97,108,108,32,120,97,32,100,111,32,115,113,108,95,99,97,108,99,95,102,111,117,110,100,95,114,111,119,115]
theorem wrap_succ {a : Nat} (h : a < 2 ^ 60) : IntKind.i64.wrap ((a : Int) + 1) = ((a + 1 : Nat) : Int) := by
  simp +contextual (disch := first | (simp only [factsC, clsL, clsS, clsC, isPtrD]; done) | omega) only [wps, factsC, wpb, cst, wpk, wpl, forall_const, implies_true, false_implies, Int.reduceLE, Int.reduceLT, Nat.reduceLeDiff, UInt8.reduceToNat, ↓reduceIte, Nat.reduceEqDiff, Nat.reduceAdd, reduceCtorEq, Int.reduceToNat, clsL, clsS, clsC]
  done
/-- the setting: these functions are gone into; strings.Fields of the odd names stands in; the law's own example was run -/
structure StdC (S : Set0) : Prop extends StdL S where
  ownC : ∀ f, f ∈ [8, 27, 28, 29, 52, 56, 57, 94, 95, 96, 97, 98, 106] → sums S.exts f = none
  oddF : ∀ h : H, callW S.cfg nil1 62 [.str oddT] h fun v h' => v = .slice h.nx 0 19 19 ∧ h' = h.push (.cells (oddL.map V.str) 9 false)
  livesC : ∀ h : H, Exact S.cfg 26 [] h (.bool true)

variable {S : Set0} (hS : StdC S)
include hS
theorem peek_spec (r a : Nat) (lv : V) (ws : List WD) (h : H) (hr : r < h.nx) (hg : h.get r = some (.cells [lv, .int .i64 a] 115 false)) (ha : Wds h lv ws) : Pure S.cfg 106 [.ptr r 0] h fun v _ => v = .agg (wordAt ws a).cells := by
  refine into Tryd.f106 _ Tryd.func106 (hS.ownC _ (by decide)) rfl rfl (by kernel_rfl) (by kernel_rfl) ?_
  have a1 := ha.len
  have hn : ¬ r = h.nx := by omega
  have hn' : ¬ h.nx = r := by omega
  by_cases hlt : a < ws.length
  · obtain ⟨b, o, m, c, e, fl, rfl, hbn, hgb, w0, w1⟩ := ha.get hlt
    have hb' : ¬ b = h.nx := by omega
    simp +contextual (disch := first | (simp only [factsC, clsL, clsS, clsC, isPtrD]; done) | omega | (simp only [push_nx, put_nx, del_nx]; omega) | (refine Nat.le_antisymm ?_ ?_ <;> simp only [push_nx, put_nx, del_nx] <;> omega) | exact dok (by kernel_rfl)) only [draw_calm, draw_calmA, wpy, factsC, wpb, cst, wpk, wpl, forall_const, implies_true, false_implies, Int.reduceLE, Int.reduceLT, Nat.reduceLeDiff, UInt8.reduceToNat, ↓reduceIte, Nat.reduceEqDiff, Nat.reduceAdd, reduceCtorEq, Int.reduceToNat, clsL, clsS, clsC, Tryd.f106, hg, hn, hn', a1, hlt, hgb, hb', w0, w1, WD.cells]
    rw [wordAt_lt hlt]
    exact ⟨((Ext.refl h).push _).put (Nat.le_refl _) _, rfl⟩
  · simp +contextual (disch := first | (simp only [factsC, clsL, clsS, clsC, isPtrD]; done) | omega | (simp only [push_nx, put_nx, del_nx]; omega) | (refine Nat.le_antisymm ?_ ?_ <;> simp only [push_nx, put_nx, del_nx] <;> omega) | exact dok (by kernel_rfl)) only [draw_calm, draw_calmA, wpy, factsC, wpb, cst, wpk, wpl, forall_const, implies_true, false_implies, Int.reduceLE, Int.reduceLT, Nat.reduceLeDiff, UInt8.reduceToNat, ↓reduceIte, Nat.reduceEqDiff, Nat.reduceAdd, reduceCtorEq, Int.reduceToNat, clsL, clsS, clsC, Tryd.f106, hg, hn, hn', a1, hlt]
    rw [wordAt_ge hlt]
    exact ⟨((Ext.refl h).push _).put (Nat.le_refl _) _, rfl⟩
theorem is_spec (r a : Nat) (lv : V) (ws : List WD) (s : List Nat) (h : H) (hs : 0 < s.length) (hsb : Bytes s) (hr : r < h.nx) (hg : h.get r = some (.cells [lv, .int .i64 a] 115 false)) (ha : Wds h lv ws) (hl : ∀ o n m, lv ≠ .slice r o n m) (hw : ws.length < 2 ^ 40) : callW S.cfg (fun k => k = r) 57 [.ptr r 0, .str s] h fun v h' => v = bo (isC ws a s) ∧ But r h h' ∧ h'.get r = some (.cells [lv, .int .i64 (a + if isC ws a s then 1 else 0 : Nat)] 115 false) := by
  refine into Tryd.f57 _ Tryd.func57 (hS.ownC _ (by decide)) rfl rfl (by kernel_rfl) (by kernel_rfl) ?_
  simp +contextual (disch := first | (simp only [factsC, clsL, clsS, clsC, isPtrD]; done) | omega | (simp only [push_nx, put_nx, del_nx]; omega) | (refine Nat.le_antisymm ?_ ?_ <;> simp only [push_nx, put_nx, del_nx] <;> omega) | fail) only [wpy, factsC, wpb, cst, wpk, wpl, forall_const, implies_true, false_implies, Int.reduceLE, Int.reduceLT, Nat.reduceLeDiff, UInt8.reduceToNat, ↓reduceIte, Nat.reduceEqDiff, Nat.reduceAdd, reduceCtorEq, Int.reduceToNat, clsL, clsS, clsC, Tryd.f57]
  refine callF_pure (peek_spec hS r a lv ws h hr hg ha) ?_
  rintro v h1 hx rfl
  have hn : ¬ r = h1.nx := by have := hx.1; omega
  have hg1 : h1.get r = some (.cells [lv, .int .i64 a] 115 false) := by rw [hx.2 r hr]; exact hg
  simp +contextual (disch := first | (simp only [factsC, clsL, clsS, clsC, isPtrD]; done) | omega | (simp only [push_nx, put_nx, del_nx]; omega) | (refine Nat.le_antisymm ?_ ?_ <;> simp only [push_nx, put_nx, del_nx] <;> omega) | exact dok (by kernel_rfl)) only [draw_calm, draw_calmA, wpy, factsC, wpb, cst, wpk, wpl, forall_const, implies_true, false_implies, Int.reduceLE, Int.reduceLT, Nat.reduceLeDiff, UInt8.reduceToNat, ↓reduceIte, Nat.reduceEqDiff, Nat.reduceAdd, reduceCtorEq, Int.reduceToNat, clsL, clsS, clsC, Tryd.f57, hn, hg1, hs, WD.cells]
  have hb1 : But r h ((h1.push (Ob.cells [V.int IntKind.i64 0, V.str [], V.int IntKind.i64 0] 36 false)).put h1.nx (Ob.cells [V.int IntKind.i64 (wordAt ws a).kind, V.str (wordAt ws a).text, V.int IntKind.i64 (wordAt ws a).at_] 36 false)) := But.of_ext ((hx.push _).put hx.1 _)
  have hyes : isC ws a s → bo True = bo (isC ws a s) ∧ some (Ob.cells [lv, V.int IntKind.i64 (IntKind.i64.wrap (↑a + 1))] 115 false) = some (Ob.cells [lv, V.int IntKind.i64 ↑(a + if isC ws a s then 1 else 0)] 115 false) := fun hc => by
    have hlt := isC_lt hc
    exact ⟨by rw [eq_true hc], by rw [if_pos hc, wrap_succ (by omega)]⟩
  have hno : ¬ isC ws a s → bo False = bo (isC ws a s) ∧ some (Ob.cells [lv, V.int IntKind.i64 ↑a] 115 false) = some (Ob.cells [lv, V.int IntKind.i64 ↑(a + if isC ws a s then 1 else 0)] 115 false) := fun hc => by
    exact ⟨by rw [eq_false hc], by rw [if_neg hc]; rfl⟩
  refine ⟨.inr (.inl hx.1), fun q => ⟨fun w => ?_, fun w => ?_⟩, fun q => ⟨fun w => ?_, fun w => ?_⟩⟩
  · obtain ⟨g1, g2⟩ := hyes ⟨by rw [kindOf, if_pos q]; exact w.1, w.2⟩
    rw [w.1, w.2] at hb1
    exact ⟨g1, hb1.put _, g2⟩
  · obtain ⟨g1, g2⟩ := hno fun hc => w ⟨by have := hc.1; rw [kindOf, if_pos q] at this; exact this, hc.2⟩
    exact ⟨g1, hb1, g2⟩
  · obtain ⟨g1, g2⟩ := hyes ⟨by rw [kindOf, if_neg q]; exact w.1, w.2⟩
    rw [w.1, w.2] at hb1
    exact ⟨g1, hb1.put _, g2⟩
  · obtain ⟨g1, g2⟩ := hno fun hc => w ⟨by have := hc.1; rw [kindOf, if_neg q] at this; exact this, hc.2⟩
    exact ⟨g1, hb1, g2⟩
theorem reads_spec (lv : V) (ws : List WD) (h : H) (ha : Wds h lv ws) : Pure S.cfg 56 [lv] h fun v h' => v = .ptr h.nx 0 ∧ h' = h.push (.cells [lv, .int .i64 0] 115 false) := by
  refine into Tryd.f56 _ Tryd.func56 (hS.ownC _ (by decide)) rfl rfl (by kernel_rfl) (by kernel_rfl) ?_
  obtain ⟨c1, c2⟩ := ha.cell
  simp +contextual (disch := first | (simp only [factsC, clsL, clsS, clsC, isPtrD]; done) | omega | (simp only [push_nx, put_nx, del_nx]; omega) | (refine Nat.le_antisymm ?_ ?_ <;> simp only [push_nx, put_nx, del_nx] <;> omega) | fail) only [wpy, factsC, wpb, cst, wpk, wpl, forall_const, implies_true, false_implies, Int.reduceLE, Int.reduceLT, Nat.reduceLeDiff, UInt8.reduceToNat, ↓reduceIte, Nat.reduceEqDiff, Nat.reduceAdd, reduceCtorEq, Int.reduceToNat, clsL, clsS, clsC, Tryd.f56, c1, c2]
  exact (Ext.refl h).push _
theorem in_spec (s : List Nat) (m : Nat) (l : List (List Nat)) (n : Nat) (h : H) (hm : m < h.nx) (hg : h.get m = some (.map (setE 0 l) n)) : Pure S.cfg 96 [.str s, .map m] h fun v _ => v = bo (s ∈ l) := by
  refine into Tryd.f96 _ Tryd.func96 (hS.ownC _ (by decide)) rfl rfl (by kernel_rfl) (by kernel_rfl) ?_
  simp +contextual (disch := first | (simp only [factsC, clsL, clsS, clsC, isPtrD]; done) | omega | (simp only [push_nx, put_nx, del_nx]; omega) | (refine Nat.le_antisymm ?_ ?_ <;> simp only [push_nx, put_nx, del_nx] <;> omega) | fail) only [wpy, factsC, wpb, cst, wpk, wpl, forall_const, implies_true, false_implies, Int.reduceLE, Int.reduceLT, Nat.reduceLeDiff, UInt8.reduceToNat, ↓reduceIte, Nat.reduceEqDiff, Nat.reduceAdd, reduceCtorEq, Int.reduceToNat, clsL, clsS, clsC, Tryd.f96]
  obtain ⟨q1, q2⟩ := findV_set s l 0 0
  by_cases hs : s ∈ l
  · obtain ⟨j, q1⟩ := q1 hs
    refine lookup_by (d := .string) (z := .agg []) (k := .str s) (es := setE 0 l) (clock := n) (r := m) ?_ ?_ (by kernel_rfl) rfl hg q1 ?_
    · simp +contextual (disch := first | (simp only [factsC, clsL, clsS, clsC, isPtrD]; done) | omega | (simp only [push_nx, put_nx, del_nx]; omega) | (refine Nat.le_antisymm ?_ ?_ <;> simp only [push_nx, put_nx, del_nx] <;> omega) | fail) only [wpy, factsC, wpb, cst, wpk, wpl, forall_const, implies_true, false_implies, Int.reduceLE, Int.reduceLT, Nat.reduceLeDiff, UInt8.reduceToNat, ↓reduceIte, Nat.reduceEqDiff, Nat.reduceAdd, reduceCtorEq, Int.reduceToNat, clsL, clsS, clsC]
    · simp +contextual (disch := first | (simp only [factsC, clsL, clsS, clsC, isPtrD]; done) | omega | (simp only [push_nx, put_nx, del_nx]; omega) | (refine Nat.le_antisymm ?_ ?_ <;> simp only [push_nx, put_nx, del_nx] <;> omega) | fail) only [wpy, factsC, wpb, cst, wpk, wpl, forall_const, implies_true, false_implies, Int.reduceLE, Int.reduceLT, Nat.reduceLeDiff, UInt8.reduceToNat, ↓reduceIte, Nat.reduceEqDiff, Nat.reduceAdd, reduceCtorEq, Int.reduceToNat, clsL, clsS, clsC]
    simp +contextual (disch := first | (simp only [factsC, clsL, clsS, clsC, isPtrD]; done) | omega | (simp only [push_nx, put_nx, del_nx]; omega) | (refine Nat.le_antisymm ?_ ?_ <;> simp only [push_nx, put_nx, del_nx] <;> omega) | fail) only [wpy, factsC, wpb, cst, wpk, wpl, forall_const, implies_true, false_implies, Int.reduceLE, Int.reduceLT, Nat.reduceLeDiff, UInt8.reduceToNat, ↓reduceIte, Nat.reduceEqDiff, Nat.reduceAdd, reduceCtorEq, Int.reduceToNat, clsL, clsS, clsC, Tryd.f96, lkV, cond_true, eq_true hs]
    exact ((Ext.refl h).push _).put (Nat.le_refl _) _
  · refine lookup_by (d := .string) (z := .agg []) (k := .str s) (es := setE 0 l) (clock := n) (r := m) ?_ ?_ (by kernel_rfl) rfl hg (q2 hs) ?_
    · simp +contextual (disch := first | (simp only [factsC, clsL, clsS, clsC, isPtrD]; done) | omega | (simp only [push_nx, put_nx, del_nx]; omega) | (refine Nat.le_antisymm ?_ ?_ <;> simp only [push_nx, put_nx, del_nx] <;> omega) | fail) only [wpy, factsC, wpb, cst, wpk, wpl, forall_const, implies_true, false_implies, Int.reduceLE, Int.reduceLT, Nat.reduceLeDiff, UInt8.reduceToNat, ↓reduceIte, Nat.reduceEqDiff, Nat.reduceAdd, reduceCtorEq, Int.reduceToNat, clsL, clsS, clsC]
    · simp +contextual (disch := first | (simp only [factsC, clsL, clsS, clsC, isPtrD]; done) | omega | (simp only [push_nx, put_nx, del_nx]; omega) | (refine Nat.le_antisymm ?_ ?_ <;> simp only [push_nx, put_nx, del_nx] <;> omega) | fail) only [wpy, factsC, wpb, cst, wpk, wpl, forall_const, implies_true, false_implies, Int.reduceLE, Int.reduceLT, Nat.reduceLeDiff, UInt8.reduceToNat, ↓reduceIte, Nat.reduceEqDiff, Nat.reduceAdd, reduceCtorEq, Int.reduceToNat, clsL, clsS, clsC]
    simp +contextual (disch := first | (simp only [factsC, clsL, clsS, clsC, isPtrD]; done) | omega | (simp only [push_nx, put_nx, del_nx]; omega) | (refine Nat.le_antisymm ?_ ?_ <;> simp only [push_nx, put_nx, del_nx] <;> omega) | fail) only [wpy, factsC, wpb, cst, wpk, wpl, forall_const, implies_true, false_implies, Int.reduceLE, Int.reduceLT, Nat.reduceLeDiff, UInt8.reduceToNat, ↓reduceIte, Nat.reduceEqDiff, Nat.reduceAdd, reduceCtorEq, Int.reduceToNat, clsL, clsS, clsC, Tryd.f96, lkV, cond_true, eq_false hs]
    exact ((Ext.refl h).push _).put (Nat.le_refl _) _
theorem set_spec (h : H) : Pure S.cfg 94 [.str oddT] h fun v h' => ∃ m n, v = .map m ∧ h.nx ≤ m ∧ m < h'.nx ∧ h'.get m = some (.map (setE 0 oddL) n) := by
  refine into Tryd.f94 _ Tryd.func94 (hS.ownC _ (by decide)) rfl rfl (by kernel_rfl) (by kernel_rfl) ?_
  simp +contextual (disch := first | (simp only [factsC, clsL, clsS, clsC, isPtrD]; done) | omega | (simp only [push_nx, put_nx, del_nx]; omega) | (refine Nat.le_antisymm ?_ ?_ <;> simp only [push_nx, put_nx, del_nx] <;> omega) | fail) only [wpy, factsC, wpb, cst, wpk, wpl, forall_const, implies_true, false_implies, Int.reduceLE, Int.reduceLT, Nat.reduceLeDiff, UInt8.reduceToNat, ↓reduceIte, Nat.reduceEqDiff, Nat.reduceAdd, reduceCtorEq, Int.reduceToNat, clsL, clsS, clsC, Tryd.f94]
  rw [opW_makeMap0]
  simp +contextual (disch := first | (simp only [factsC, clsL, clsS, clsC, isPtrD]; done) | omega | (simp only [push_nx, put_nx, del_nx]; omega) | (refine Nat.le_antisymm ?_ ?_ <;> simp only [push_nx, put_nx, del_nx] <;> omega) | fail) only [wpy, factsC, wpb, cst, wpk, wpl, forall_const, implies_true, false_implies, Int.reduceLE, Int.reduceLT, Nat.reduceLeDiff, UInt8.reduceToNat, ↓reduceIte, Nat.reduceEqDiff, Nat.reduceAdd, reduceCtorEq, Int.reduceToNat, clsL, clsS, clsC, Tryd.f94]
  have hfa := hS.oddF (h.push (.map [] 0))
  refine ⟨nil1, fun _ q => q.elim, callW_mono hfa (fun _ q => q) ?_⟩
  rintro v h' ⟨rfl, rfl⟩
  simp +contextual (disch := first | (simp only [factsC, clsL, clsS, clsC, isPtrD]; done) | omega | (simp only [push_nx, put_nx, del_nx]; omega) | (refine Nat.le_antisymm ?_ ?_ <;> simp only [push_nx, put_nx, del_nx] <;> omega) | fail) only [wpy, factsC, wpb, cst, wpk, wpl, forall_const, implies_true, false_implies, Int.reduceLE, Int.reduceLT, Nat.reduceLeDiff, UInt8.reduceToNat, ↓reduceIte, Nat.reduceEqDiff, Nat.reduceAdd, reduceCtorEq, Int.reduceToNat, clsL, clsS, clsC, Tryd.f94]
  refine run_loop (fun k env h' => ∃ i : Nat, k = 19 - i ∧ i ≤ 19 ∧ env 3 = .map h.nx ∧ env 8 = .slice (h.nx + 1) 0 19 19 ∧ env 9 = .int .i64 (19 : Nat) ∧ env 10 = .int .i64 i ∧ h.nx + 2 ≤ h'.nx ∧ Ext h h' ∧ h'.get h.nx = some (.map (setE 0 (oddL.take i)) i) ∧ h'.get (h.nx + 1) = some (.cells (oddL.map V.str) 9 false)) 19 ⟨0, ?_⟩ ?_
  · simp +contextual (disch := first | (simp only [factsC, clsL, clsS, clsC, isPtrD]; done) | omega | (simp only [push_nx, put_nx, del_nx]; omega) | (refine Nat.le_antisymm ?_ ?_ <;> simp only [push_nx, put_nx, del_nx] <;> omega) | fail) only [wpy, factsC, wpb, cst, wpk, wpl, forall_const, implies_true, false_implies, Int.reduceLE, Int.reduceLT, Nat.reduceLeDiff, UInt8.reduceToNat, ↓reduceIte, Nat.reduceEqDiff, Nat.reduceAdd, reduceCtorEq, Int.reduceToNat, clsL, clsS, clsC]
    exact ⟨((Ext.refl h).push _).push _, rfl⟩
  rintro k env h' ⟨i, rfl, hi, e3, e8, e9, e10, hn, hx, hg, hgl⟩
  by_cases hi2 : i < 19
  · have hil : i < oddL.length := hi2
    have hgi : (oddL.map V.str)[i]? = some (.str oddL[i]) := by rw [List.getElem?_map, List.getElem?_eq_getElem hil]; rfl
    have hni : oddL[i] ∉ oddL.take i := by
      have : ∀ j : Fin 19, oddL[j.val]'j.isLt ∉ oddL.take j.val := by decide +kernel
      exact this ⟨i, hi2⟩
    simp +contextual (disch := first | (simp only [factsC, clsL, clsS, clsC, isPtrD]; done) | omega | (simp only [push_nx, put_nx, del_nx]; omega) | (refine Nat.le_antisymm ?_ ?_ <;> simp only [push_nx, put_nx, del_nx] <;> omega) | fail) only [wpy, factsC, wpb, cst, wpk, wpl, forall_const, implies_true, false_implies, Int.reduceLE, Int.reduceLT, Nat.reduceLeDiff, UInt8.reduceToNat, ↓reduceIte, Nat.reduceEqDiff, Nat.reduceAdd, reduceCtorEq, Int.reduceToNat, clsL, clsS, clsC, Tryd.f94, e3, e8, e9, e10, hg, hgl, hi2, hgi]
    refine update_new (d := .string) (z := .agg []) (kv := .str oddL[i]) (xv := .agg []) (es := setE 0 (oddL.take i)) (clock := i) (r := h.nx) ?_ ?_ ?_ (by kernel_rfl) rfl hg ((findV_set _ _ 0 0).2 hni) ?_ ?_
    · simp +contextual (disch := first | (simp only [factsC, clsL, clsS, clsC, isPtrD]; done) | omega | (simp only [push_nx, put_nx, del_nx]; omega) | (refine Nat.le_antisymm ?_ ?_ <;> simp only [push_nx, put_nx, del_nx] <;> omega) | fail) only [wpy, factsC, wpb, cst, wpk, wpl, forall_const, implies_true, false_implies, Int.reduceLE, Int.reduceLT, Nat.reduceLeDiff, UInt8.reduceToNat, ↓reduceIte, Nat.reduceEqDiff, Nat.reduceAdd, reduceCtorEq, Int.reduceToNat, clsL, clsS, clsC]
    · simp +contextual (disch := first | (simp only [factsC, clsL, clsS, clsC, isPtrD]; done) | omega | (simp only [push_nx, put_nx, del_nx]; omega) | (refine Nat.le_antisymm ?_ ?_ <;> simp only [push_nx, put_nx, del_nx] <;> omega) | fail) only [wpy, factsC, wpb, cst, wpk, wpl, forall_const, implies_true, false_implies, Int.reduceLE, Int.reduceLT, Nat.reduceLeDiff, UInt8.reduceToNat, ↓reduceIte, Nat.reduceEqDiff, Nat.reduceAdd, reduceCtorEq, Int.reduceToNat, clsL, clsS, clsC]
    · simp +contextual (disch := first | (simp only [factsC, clsL, clsS, clsC, isPtrD]; done) | omega | (simp only [push_nx, put_nx, del_nx]; omega) | (refine Nat.le_antisymm ?_ ?_ <;> simp only [push_nx, put_nx, del_nx] <;> omega) | fail) only [wpy, factsC, wpb, cst, wpk, wpl, forall_const, implies_true, false_implies, Int.reduceLE, Int.reduceLT, Nat.reduceLeDiff, UInt8.reduceToNat, ↓reduceIte, Nat.reduceEqDiff, Nat.reduceAdd, reduceCtorEq, Int.reduceToNat, clsL, clsS, clsC]
    · exact .inr (by rw [fresh_def]; exact .inl (Nat.le_refl _))
    simp +contextual (disch := first | (simp only [factsC, clsL, clsS, clsC, isPtrD]; done) | omega | (simp only [push_nx, put_nx, del_nx]; omega) | (refine Nat.le_antisymm ?_ ?_ <;> simp only [push_nx, put_nx, del_nx] <;> omega) | fail) only [wpy, factsC, wpb, cst, wpk, wpl, forall_const, implies_true, false_implies, Int.reduceLE, Int.reduceLT, Nat.reduceLeDiff, UInt8.reduceToNat, ↓reduceIte, Nat.reduceEqDiff, Nat.reduceAdd, reduceCtorEq, Int.reduceToNat, clsL, clsS, clsC, Tryd.f94, e3, e8, e9, e10, hg, hgl, hi2, hgi]
    refine ⟨_, ?_, i + 1, rfl, by omega, rfl, hn, hx.put (Nat.le_refl _) _, ?_⟩
    · omega
    rw [List.take_succ_eq_append_getElem hil, setE_snoc, List.length_take, Nat.zero_add, Nat.min_eq_left (by omega)]
  · simp +contextual (disch := first | (simp only [factsC, clsL, clsS, clsC, isPtrD]; done) | omega | (simp only [push_nx, put_nx, del_nx]; omega) | (refine Nat.le_antisymm ?_ ?_ <;> simp only [push_nx, put_nx, del_nx] <;> omega) | fail) only [wpy, factsC, wpb, cst, wpk, wpl, forall_const, implies_true, false_implies, Int.reduceLE, Int.reduceLT, Nat.reduceLeDiff, UInt8.reduceToNat, ↓reduceIte, Nat.reduceEqDiff, Nat.reduceAdd, reduceCtorEq, Int.reduceToNat, clsL, clsS, clsC, Tryd.f94, e3, e8, e9, e10, hg, hgl, hi2]
    refine ⟨hx, h.nx, 19, rfl, Nat.le_refl _, by omega, ?_⟩
    have : i = 19 := by omega
    subst this
    exact hg
theorem rEither_spec (r a : Nat) (lv : V) (ws : List WD) (l : List (List Nat)) (b : Nat) (h : H) (hl0 : ∀ s ∈ l, 0 < s.length ∧ Bytes s) (hll : l.length < 2 ^ 40) (hr : r < h.nx) (hb : b < h.nx) (hbr : b ≠ r) (hgb : h.get b = some (.cells (l.map V.str) 9 false)) (hg : h.get r = some (.cells [lv, .int .i64 a] 115 false)) (ha : Wds h lv ws) (hl : ∀ o n m, lv ≠ .slice r o n m) (hw : ws.length < 2 ^ 40) : callW S.cfg (fun k => k = r) 95 [.ptr r 0, .slice b 0 l.length l.length] h fun v h' => v = bo (anyC ws a l) ∧ But r h h' ∧ h'.get r = some (.cells [lv, .int .i64 (a + if anyC ws a l then 1 else 0 : Nat)] 115 false) := by
  refine into Tryd.f95 _ Tryd.func95 (hS.ownC _ (by decide)) rfl rfl (by kernel_rfl) (by kernel_rfl) ?_
  simp +contextual (disch := first | (simp only [factsC, clsL, clsS, clsC, isPtrD]; done) | omega | (simp only [push_nx, put_nx, del_nx]; omega) | (refine Nat.le_antisymm ?_ ?_ <;> simp only [push_nx, put_nx, del_nx] <;> omega) | fail) only [wpy, factsC, wpb, cst, wpk, wpl, forall_const, implies_true, false_implies, Int.reduceLE, Int.reduceLT, Nat.reduceLeDiff, UInt8.reduceToNat, ↓reduceIte, Nat.reduceEqDiff, Nat.reduceAdd, reduceCtorEq, Int.reduceToNat, clsL, clsS, clsC, Tryd.f95]
  refine run_loop (fun k env h' => ∃ i : Nat, k = l.length - i ∧ i ≤ l.length ∧ env 0 = .ptr r 0 ∧ env 7 = .slice b 0 l.length l.length ∧ env 8 = .int .i64 l.length ∧ env 9 = .int .i64 i ∧ But r h h' ∧ h'.get r = some (.cells [lv, .int .i64 a] 115 false) ∧ ¬ anyC ws a (l.take i)) l.length ⟨0, ?_⟩ ?_
  · simp +contextual (disch := first | (simp only [factsC, clsL, clsS, clsC, isPtrD]; done) | omega | (simp only [push_nx, put_nx, del_nx]; omega) | (refine Nat.le_antisymm ?_ ?_ <;> simp only [push_nx, put_nx, del_nx] <;> omega) | fail) only [wpy, factsC, wpb, cst, wpk, wpl, forall_const, implies_true, false_implies, Int.reduceLE, Int.reduceLT, Nat.reduceLeDiff, UInt8.reduceToNat, ↓reduceIte, Nat.reduceEqDiff, Nat.reduceAdd, reduceCtorEq, Int.reduceToNat, clsL, clsS, clsC]
    exact ⟨rfl, But.refl _ _, hg, fun ⟨_, q, _⟩ => by cases q⟩
  rintro k env h' ⟨i, rfl, hi, e0, e7, e8, e9, hx, hg', hno⟩
  by_cases hi2 : i < l.length
  · have hgi : (l.map V.str)[i]? = some (.str l[i]) := by rw [List.getElem?_map, List.getElem?_eq_getElem hi2]; rfl
    have hgb' : h'.get b = some (.cells (l.map V.str) 9 false) := by rw [hx.2 b hb hbr]; exact hgb
    obtain ⟨s0, s1⟩ := hl0 _ (List.getElem_mem hi2)
    simp +contextual (disch := first | (simp only [factsC, clsL, clsS, clsC, isPtrD]; done) | omega | (simp only [push_nx, put_nx, del_nx]; omega) | (refine Nat.le_antisymm ?_ ?_ <;> simp only [push_nx, put_nx, del_nx] <;> omega) | fail) only [wpy, factsC, wpb, cst, wpk, wpl, forall_const, implies_true, false_implies, Int.reduceLE, Int.reduceLT, Nat.reduceLeDiff, UInt8.reduceToNat, ↓reduceIte, Nat.reduceEqDiff, Nat.reduceAdd, reduceCtorEq, Int.reduceToNat, clsL, clsS, clsC, Tryd.f95, e0, e7, e8, e9, hgb', hi2, hgi]
    refine callF_of (is_spec hS r a lv ws l[i] h' s0 s1 (Nat.lt_of_lt_of_le hr hx.1) hg' (ha.but hx hl) hl hw) (fun k q => by rw [fresh_def]; exact .inr q) ?_
    rintro v h2 ⟨rfl, hx2, hg2⟩
    by_cases hc : isC ws a l[i]
    · have hany : anyC ws a l := ⟨l[i], List.getElem_mem hi2, hc⟩
      rw [if_pos hc] at hg2
      simp +contextual (disch := first | (simp only [factsC, clsL, clsS, clsC, isPtrD]; done) | omega | (simp only [push_nx, put_nx, del_nx]; omega) | (refine Nat.le_antisymm ?_ ?_ <;> simp only [push_nx, put_nx, del_nx] <;> omega) | fail) only [wpy, factsC, wpb, cst, wpk, wpl, forall_const, implies_true, false_implies, Int.reduceLE, Int.reduceLT, Nat.reduceLeDiff, UInt8.reduceToNat, ↓reduceIte, Nat.reduceEqDiff, Nat.reduceAdd, reduceCtorEq, Int.reduceToNat, clsL, clsS, clsC, Tryd.f95, e0, e7, e8, e9, hgb', hi2, hgi, hc]
      exact ⟨by rw [eq_true hany], hx.trans hx2, by rw [if_pos hany]; exact hg2⟩
    · rw [if_neg hc] at hg2
      simp +contextual (disch := first | (simp only [factsC, clsL, clsS, clsC, isPtrD]; done) | omega | (simp only [push_nx, put_nx, del_nx]; omega) | (refine Nat.le_antisymm ?_ ?_ <;> simp only [push_nx, put_nx, del_nx] <;> omega) | fail) only [wpy, factsC, wpb, cst, wpk, wpl, forall_const, implies_true, false_implies, Int.reduceLE, Int.reduceLT, Nat.reduceLeDiff, UInt8.reduceToNat, ↓reduceIte, Nat.reduceEqDiff, Nat.reduceAdd, reduceCtorEq, Int.reduceToNat, clsL, clsS, clsC, Tryd.f95, e0, e7, e8, e9, hgb', hi2, hgi, hc]
      refine ⟨_, ?_, i + 1, rfl, by omega, rfl, hx.trans hx2, hg2, ?_⟩
      · omega
      rintro ⟨s, hs, hq⟩
      rw [List.take_succ_eq_append_getElem hi2, List.mem_append] at hs
      rcases hs with hs | hs
      · exact hno ⟨s, hs, hq⟩
      · rw [List.mem_singleton] at hs
        rw [hs] at hq
        exact hc hq
  · simp +contextual (disch := first | (simp only [factsC, clsL, clsS, clsC, isPtrD]; done) | omega | (simp only [push_nx, put_nx, del_nx]; omega) | (refine Nat.le_antisymm ?_ ?_ <;> simp only [push_nx, put_nx, del_nx] <;> omega) | fail) only [wpy, factsC, wpb, cst, wpk, wpl, forall_const, implies_true, false_implies, Int.reduceLE, Int.reduceLT, Nat.reduceLeDiff, UInt8.reduceToNat, ↓reduceIte, Nat.reduceEqDiff, Nat.reduceAdd, reduceCtorEq, Int.reduceToNat, clsL, clsS, clsC, Tryd.f95, e0, e7, e8, e9, hi2]
    rw [List.take_of_length_le (by omega)] at hno
    exact ⟨by rw [eq_false hno], hx, by rw [if_neg hno]; exact hg'⟩
theorem rAll_spec (r a : Nat) (lv : V) (ws : List WD) (l : List (List Nat)) (b : Nat) (h : H) (hl0 : ∀ s ∈ l, 0 < s.length ∧ Bytes s) (hll : l.length < 2 ^ 40) (hr : r < h.nx) (hb : b < h.nx) (hbr : b ≠ r) (hgb : h.get b = some (.cells (l.map V.str) 9 false)) (hg : h.get r = some (.cells [lv, .int .i64 a] 115 false)) (ha : Wds h lv ws) (hl : ∀ o n m, lv ≠ .slice r o n m) (hw : ws.length < 2 ^ 40) (haw : a ≤ 2 ^ 40) : callW S.cfg (fun k => k = r) 98 [.ptr r 0, .slice b 0 l.length l.length] h fun v h' => v = bo (allC ws a l) ∧ But r h h' ∧ h'.get r = some (.cells [lv, .int .i64 (a + if allC ws a l then l.length else 0 : Nat)] 115 false) := by
  refine into Tryd.f98 _ Tryd.func98 (hS.ownC _ (by decide)) rfl rfl (by kernel_rfl) (by kernel_rfl) ?_
  simp +contextual (disch := first | (simp only [factsC, clsL, clsS, clsC, isPtrD]; done) | omega | (simp only [push_nx, put_nx, del_nx]; omega) | (refine Nat.le_antisymm ?_ ?_ <;> simp only [push_nx, put_nx, del_nx] <;> omega) | fail) only [wpy, factsC, wpb, cst, wpk, wpl, forall_const, implies_true, false_implies, Int.reduceLE, Int.reduceLT, Nat.reduceLeDiff, UInt8.reduceToNat, ↓reduceIte, Nat.reduceEqDiff, Nat.reduceAdd, reduceCtorEq, Int.reduceToNat, clsL, clsS, clsC, Tryd.f98, hg]
  refine run_loop (fun k env h' => ∃ i : Nat, k = l.length - i ∧ i ≤ l.length ∧ env 0 = .ptr r 0 ∧ env 5 = .int .i64 a ∧ env 12 = .slice b 0 l.length l.length ∧ env 13 = .int .i64 l.length ∧ env 14 = .int .i64 i ∧ But r h h' ∧ h'.get r = some (.cells [lv, .int .i64 (a + i : Nat)] 115 false) ∧ ∀ j (hj : j < l.length), j < i → isC ws (a + j) l[j]) l.length ⟨0, ?_⟩ ?_
  · simp +contextual (disch := first | (simp only [factsC, clsL, clsS, clsC, isPtrD]; done) | omega | (simp only [push_nx, put_nx, del_nx]; omega) | (refine Nat.le_antisymm ?_ ?_ <;> simp only [push_nx, put_nx, del_nx] <;> omega) | fail) only [wpy, factsC, wpb, cst, wpk, wpl, forall_const, implies_true, false_implies, Int.reduceLE, Int.reduceLT, Nat.reduceLeDiff, UInt8.reduceToNat, ↓reduceIte, Nat.reduceEqDiff, Nat.reduceAdd, reduceCtorEq, Int.reduceToNat, clsL, clsS, clsC]
    exact ⟨rfl, But.refl _ _, hg, fun j _ hj => by omega⟩
  rintro k env h' ⟨i, rfl, hi, e0, e5, e12, e13, e14, hx, hg', hno⟩
  by_cases hi2 : i < l.length
  · have hgi : (l.map V.str)[i]? = some (.str l[i]) := by rw [List.getElem?_map, List.getElem?_eq_getElem hi2]; rfl
    have hgb' : h'.get b = some (.cells (l.map V.str) 9 false) := by rw [hx.2 b hb hbr]; exact hgb
    obtain ⟨s0, s1⟩ := hl0 _ (List.getElem_mem hi2)
    simp +contextual (disch := first | (simp only [factsC, clsL, clsS, clsC, isPtrD]; done) | omega | (simp only [push_nx, put_nx, del_nx]; omega) | (refine Nat.le_antisymm ?_ ?_ <;> simp only [push_nx, put_nx, del_nx] <;> omega) | fail) only [wpy, factsC, wpb, cst, wpk, wpl, forall_const, implies_true, false_implies, Int.reduceLE, Int.reduceLT, Nat.reduceLeDiff, UInt8.reduceToNat, ↓reduceIte, Nat.reduceEqDiff, Nat.reduceAdd, reduceCtorEq, Int.reduceToNat, clsL, clsS, clsC, Tryd.f98, e0, e5, e12, e13, e14, hgb', hi2, hgi]
    refine callF_of (is_spec hS r (a + i) lv ws l[i] h' s0 s1 (Nat.lt_of_lt_of_le hr hx.1) hg' (ha.but hx hl) hl hw) (fun k q => by rw [fresh_def]; exact .inr q) ?_
    rintro v h2 ⟨rfl, hx2, hg2⟩
    by_cases hc : isC ws (a + i) l[i]
    · rw [if_pos hc] at hg2
      simp +contextual (disch := first | (simp only [factsC, clsL, clsS, clsC, isPtrD]; done) | omega | (simp only [push_nx, put_nx, del_nx]; omega) | (refine Nat.le_antisymm ?_ ?_ <;> simp only [push_nx, put_nx, del_nx] <;> omega) | fail) only [wpy, factsC, wpb, cst, wpk, wpl, forall_const, implies_true, false_implies, Int.reduceLE, Int.reduceLT, Nat.reduceLeDiff, UInt8.reduceToNat, ↓reduceIte, Nat.reduceEqDiff, Nat.reduceAdd, reduceCtorEq, Int.reduceToNat, clsL, clsS, clsC, Tryd.f98, e0, e5, e12, e13, e14, hgb', hi2, hgi, hc]
      refine ⟨_, ?_, i + 1, rfl, by omega, rfl, hx.trans hx2, hg2, ?_⟩
      · omega
      intro j hj hji
      by_cases hjj : j < i
      · exact hno j hj hjj
      · obtain rfl : j = i := by omega
        exact hc
    · have hnall : ¬ allC ws a l := fun q => hc (q i hi2)
      rw [if_neg hc] at hg2
      simp +contextual (disch := first | (simp only [factsC, clsL, clsS, clsC, isPtrD]; done) | omega | (simp only [push_nx, put_nx, del_nx]; omega) | (refine Nat.le_antisymm ?_ ?_ <;> simp only [push_nx, put_nx, del_nx] <;> omega) | fail) only [wpy, factsC, wpb, cst, wpk, wpl, forall_const, implies_true, false_implies, Int.reduceLE, Int.reduceLT, Nat.reduceLeDiff, UInt8.reduceToNat, ↓reduceIte, Nat.reduceEqDiff, Nat.reduceAdd, reduceCtorEq, Int.reduceToNat, clsL, clsS, clsC, Tryd.f98, e0, e5, e12, e13, e14, hgb', hi2, hgi, hc, hg2]
      exact ⟨by rw [eq_false hnall], (hx.trans hx2).put _, by rw [if_neg hnall]; rfl⟩
  · have hall : allC ws a l := fun j hj => hno j hj (by omega)
    simp +contextual (disch := first | (simp only [factsC, clsL, clsS, clsC, isPtrD]; done) | omega | (simp only [push_nx, put_nx, del_nx]; omega) | (refine Nat.le_antisymm ?_ ?_ <;> simp only [push_nx, put_nx, del_nx] <;> omega) | fail) only [wpy, factsC, wpb, cst, wpk, wpl, forall_const, implies_true, false_implies, Int.reduceLE, Int.reduceLT, Nat.reduceLeDiff, UInt8.reduceToNat, ↓reduceIte, Nat.reduceEqDiff, Nat.reduceAdd, reduceCtorEq, Int.reduceToNat, clsL, clsS, clsC, Tryd.f98, e0, e5, e12, e13, e14, hi2]
    obtain rfl : i = l.length := by omega
    exact ⟨by rw [eq_true hall], hx, by rw [if_pos hall]; exact hg'⟩
def fileL : List (List Nat) := [[108,111,97,100], [100,97,116,97], [108,111,99,97,108], [105,110,102,105,108,101]]
theorem file_spec (lv : V) (ws : List WD) (h : H) (ha : Wds h lv ws) (hw : ws.length < 2 ^ 40) : Pure S.cfg 97 [lv] h fun v _ => v = bo (allC ws 0 fileL) := by
  refine into Tryd.f97 _ Tryd.func97 (hS.ownC _ (by decide)) rfl rfl (by kernel_rfl) (by kernel_rfl) ?_
  simp +contextual (disch := first | (simp only [factsC, clsL, clsS, clsC, isPtrD]; done) | omega | (simp only [push_nx, put_nx, del_nx]; omega) | (refine Nat.le_antisymm ?_ ?_ <;> simp only [push_nx, put_nx, del_nx] <;> omega) | fail) only [wpy, factsC, wpb, cst, wpk, wpl, forall_const, implies_true, false_implies, Int.reduceLE, Int.reduceLT, Nat.reduceLeDiff, UInt8.reduceToNat, ↓reduceIte, Nat.reduceEqDiff, Nat.reduceAdd, reduceCtorEq, Int.reduceToNat, clsL, clsS, clsC, Tryd.f97]
  refine callF_pure (reads_spec hS lv ws h ha) ?_
  rintro v h1 hx ⟨rfl, rfl⟩
  simp +contextual (disch := first | (simp only [factsC, clsL, clsS, clsC, isPtrD]; done) | omega | (simp only [push_nx, put_nx, del_nx]; omega) | (refine Nat.le_antisymm ?_ ?_ <;> simp only [push_nx, put_nx, del_nx] <;> omega) | fail) only [wpy, factsC, wpb, cst, wpk, wpl, forall_const, implies_true, false_implies, Int.reduceLE, Int.reduceLT, Nat.reduceLeDiff, UInt8.reduceToNat, ↓reduceIte, Nat.reduceEqDiff, Nat.reduceAdd, reduceCtorEq, Int.reduceToNat, clsL, clsS, clsC, Tryd.f97]
  have hb2 : h.nx < (h.push (Ob.cells [lv, V.int IntKind.i64 0] 115 false)).nx := Nat.lt_succ_self _
  have hne : ∀ o n m, lv ≠ .slice h.nx o n m := fun o n m q => by
    subst q
    rcases ha with ⟨q, _⟩ | ⟨b, _, _, _, _, _, q, hb, _⟩
    · cases q
    · cases q; omega
  refine callF_of (rAll_spec hS h.nx 0 lv ws fileL (h.nx + 1) ((h.push (.cells [lv, .int .i64 0] 115 false)).push (.cells (fileL.map V.str) 9 false)) (goodTs (by decide)) (by decide) (Nat.lt_succ_of_lt hb2) (Nat.lt_succ_self _) (by omega) ?_ ?_ ((ha.ext ((Ext.refl h).push _)).ext ((Ext.refl _).push _)) hne hw (by decide)) (fun k q => by rw [fresh_def]; exact .inl (by omega)) ?_
  · exact push_eq rfl
  · rw [push_ne (show ¬ h.nx = h.nx + 1 by omega), push_eq rfl]; rfl
  rintro v h2 ⟨rfl, hx2, _⟩
  simp +contextual (disch := first | (simp only [factsC, clsL, clsS, clsC, isPtrD]; done) | omega | (simp only [push_nx, put_nx, del_nx]; omega) | (refine Nat.le_antisymm ?_ ?_ <;> simp only [push_nx, put_nx, del_nx] <;> omega) | fail) only [wpy, factsC, wpb, cst, wpk, wpl, forall_const, implies_true, false_implies, Int.reduceLE, Int.reduceLT, Nat.reduceLeDiff, UInt8.reduceToNat, ↓reduceIte, Nat.reduceEqDiff, Nat.reduceAdd, reduceCtorEq, Int.reduceToNat, clsL, clsS, clsC, Tryd.f97]
  exact Ext.but (((Ext.refl h).push _).push _) hx2 (Nat.le_refl _)
end
end Go.Proofs.YtkibhdbmamfjcaaDoor

/-
  classify: what makes words odd, walked.
-/
set_option linter.unusedSimpArgs false
set_option linter.unusedVariables false
set_option linter.defProp false
set_option maxRecDepth 10000
namespace Go.Proofs.YtkibhdbmamfjcaaDoor
open Go.Proofs Go.Lx Go.Wx Go.IntWalk
noncomputable section

def insL : List (List Nat) := [[105,110,115,101,114,116], [114,101,112,108,97,99,101]]
def intoT : List Nat := [105,110,116,111]
/-- what makes the i-th word odd -/
def oddW (ws : List WD) (i : Nat) : Prop := (wordAt ws i).kind = 9 ∨ ((wordAt ws i).kind = 5 ∧ (wordAt ws i).text = [58, 61]) ∨ ((wordAt ws i).kind = 1 ∧ (wordAt ws i).text ∈ oddL) ∨ ((wordAt ws i).kind = 1 ∧ (wordAt ws i).text = intoT ∧ ¬ (anyC ws 0 insL ∧ i = 1) ∧ ¬ allC ws 0 fileL)
def oddsP (ws : List WD) : Prop := ∃ i, i < ws.length ∧ oddW ws i

variable {S : Set0} (hS : StdC S)
include hS
theorem cOdd_spec (lv : V) (ws : List WD) (h : H) (ha : Wds h lv ws) (hw : ws.length < 2 ^ 40) : Pure S.cfg 52 [lv] h fun v _ => v = bo (oddsP ws) := by
  refine into Tryd.f52 _ Tryd.func52 (hS.ownC _ (by decide)) rfl rfl (by kernel_rfl) (by kernel_rfl) ?_
  have hlv : ∀ k, h.nx ≤ k → ∀ o n m, lv ≠ .slice k o n m := fun k hk o n m q => by
    subst q
    rcases ha with ⟨q, _⟩ | ⟨b, _, _, _, _, _, q, hb, _⟩
    · cases q
    · cases q; omega
  have a1 := ha.len
  simp +contextual (disch := first | (simp only [factsC, clsL, clsS, clsC, isPtrD]; done) | omega | (simp only [push_nx, put_nx, del_nx]; omega) | (refine Nat.le_antisymm ?_ ?_ <;> simp only [push_nx, put_nx, del_nx] <;> omega) | fail) only [wpy, factsC, wpb, cst, wpk, wpl, forall_const, implies_true, false_implies, Int.reduceLE, Int.reduceLT, Nat.reduceLeDiff, UInt8.reduceToNat, ↓reduceIte, Nat.reduceEqDiff, Nat.reduceAdd, reduceCtorEq, Int.reduceToNat, clsL, clsS, clsC, Tryd.f52]
  refine callF_pure (set_spec hS h) ?_
  rintro v h1 hx1 ⟨m, n, rfl, hm0, hm1, hgm⟩
  simp +contextual (disch := first | (simp only [factsC, clsL, clsS, clsC, isPtrD]; done) | omega | (simp only [push_nx, put_nx, del_nx]; omega) | (refine Nat.le_antisymm ?_ ?_ <;> simp only [push_nx, put_nx, del_nx] <;> omega) | fail) only [wpy, factsC, wpb, cst, wpk, wpl, forall_const, implies_true, false_implies, Int.reduceLE, Int.reduceLT, Nat.reduceLeDiff, UInt8.reduceToNat, ↓reduceIte, Nat.reduceEqDiff, Nat.reduceAdd, reduceCtorEq, Int.reduceToNat, clsL, clsS, clsC, Tryd.f52]
  refine callF_pure (reads_spec hS lv ws h1 (ha.ext hx1)) ?_
  rintro v h2 hx2 ⟨rfl, rfl⟩
  have hx1n := hx1.1
  simp +contextual (disch := first | (simp only [factsC, clsL, clsS, clsC, isPtrD]; done) | omega | (simp only [push_nx, put_nx, del_nx]; omega) | (refine Nat.le_antisymm ?_ ?_ <;> simp only [push_nx, put_nx, del_nx] <;> omega) | fail) only [wpy, factsC, wpb, cst, wpk, wpl, forall_const, implies_true, false_implies, Int.reduceLE, Int.reduceLT, Nat.reduceLeDiff, UInt8.reduceToNat, ↓reduceIte, Nat.reduceEqDiff, Nat.reduceAdd, reduceCtorEq, Int.reduceToNat, clsL, clsS, clsC, Tryd.f52]
  refine callF_of (rEither_spec hS h1.nx 0 lv ws insL (h1.nx + 1) ((h1.push (.cells [lv, .int .i64 0] 115 false)).push (.cells (insL.map V.str) 9 false)) (goodTs (by decide)) (by decide) (Nat.lt_succ_of_lt (Nat.lt_succ_self _)) (Nat.lt_succ_self _) (by omega) (push_eq rfl) ?_ (((ha.ext hx1).ext ((Ext.refl h1).push _)).ext ((Ext.refl _).push _)) (hlv _ hx1n) hw) (fun k q => by rw [fresh_def]; exact .inl (by omega)) ?_
  · rw [push_ne (show ¬ h1.nx = h1.nx + 1 by omega), push_eq rfl]; rfl
  rintro v h3 ⟨rfl, hx3, _⟩
  have hX3 : Ext h1 h3 := Ext.but (((Ext.refl h1).push _).push _) hx3 (Nat.le_refl _)
  simp +contextual (disch := first | (simp only [factsC, clsL, clsS, clsC, isPtrD]; done) | omega | (simp only [push_nx, put_nx, del_nx]; omega) | (refine Nat.le_antisymm ?_ ?_ <;> simp only [push_nx, put_nx, del_nx] <;> omega) | fail) only [wpy, factsC, wpb, cst, wpk, wpl, forall_const, implies_true, false_implies, Int.reduceLE, Int.reduceLT, Nat.reduceLeDiff, UInt8.reduceToNat, ↓reduceIte, Nat.reduceEqDiff, Nat.reduceAdd, reduceCtorEq, Int.reduceToNat, clsL, clsS, clsC, Tryd.f52, a1]
  refine run_loop (fun k env h' => ∃ i : Nat, k = ws.length - i ∧ i ≤ ws.length ∧ env 0 = lv ∧ env 3 = .map m ∧ env 5 = bo (anyC ws 0 insL) ∧ env 14 = lv ∧ env 15 = .int .i64 ws.length ∧ env 16 = .int .i64 i ∧ Ext h1 h' ∧ ∀ j, j < i → ¬ oddW ws j) ws.length ⟨0, ?_⟩ ?_
  · simp +contextual (disch := first | (simp only [factsC, clsL, clsS, clsC, isPtrD]; done) | omega | (simp only [push_nx, put_nx, del_nx]; omega) | (refine Nat.le_antisymm ?_ ?_ <;> simp only [push_nx, put_nx, del_nx] <;> omega) | fail) only [wpy, factsC, wpb, cst, wpk, wpl, forall_const, implies_true, false_implies, Int.reduceLE, Int.reduceLT, Nat.reduceLeDiff, UInt8.reduceToNat, ↓reduceIte, Nat.reduceEqDiff, Nat.reduceAdd, reduceCtorEq, Int.reduceToNat, clsL, clsS, clsC]
    exact ⟨(Nat.sub_zero _).symm, hX3, fun j hj => by omega⟩
  rintro k env h' ⟨i, rfl, hi, e0, e3, e5, e14, e15, e16, hx, hno⟩
  have hxn := hx.1
  have ha' : Wds h' lv ws := (ha.ext hx1).ext hx
  by_cases hi2 : i < ws.length
  · obtain ⟨b, o, mc, c, e, fl, rfl, hbn, hgb, w0, w1⟩ := ha'.get hi2
    rw [← wordAt_lt hi2] at w1
    have hW : (wordAt ws i).cells = [.int .i64 (wordAt ws i).kind, .str (wordAt ws i).text, .int .i64 (wordAt ws i).at_] := rfl
    rw [hW] at w1
    have hyes : oddW ws i → oddsP ws := fun q => ⟨i, hi2, q⟩
    have hgm' : h'.get m = some (.map (setE 0 oddL) n) := by rw [hx.2 m hm1]; exact hgm
    have hnext : ¬ oddW ws i → ∀ j, j < i + 1 → ¬ oddW ws j := fun q j hj => by
      by_cases hji : j < i
      · exact hno j hji
      · obtain rfl : j = i := by omega
        exact q
    by_cases c9 : (wordAt ws i).kind = 9
    · simp +contextual (disch := first | (simp only [factsC, clsL, clsS, clsC, isPtrD]; done) | omega | (simp only [push_nx, put_nx, del_nx]; omega) | (refine Nat.le_antisymm ?_ ?_ <;> simp only [push_nx, put_nx, del_nx] <;> omega) | exact dok (by kernel_rfl)) only [draw_calm, draw_calmA, wpy, factsC, wpb, cst, wpk, wpl, forall_const, implies_true, false_implies, Int.reduceLE, Int.reduceLT, Nat.reduceLeDiff, UInt8.reduceToNat, ↓reduceIte, Nat.reduceEqDiff, Nat.reduceAdd, reduceCtorEq, Int.reduceToNat, clsL, clsS, clsC, Tryd.f52, e0, e3, e5, e14, e15, e16, hi2, hgb, w0, w1, c9]
      exact ⟨.inr (by omega), hx1.trans ((hx.push _).put (by omega) _), by rw [eq_true (hyes (.inl c9))]⟩
    · by_cases c5 : (wordAt ws i).kind = 5
      · by_cases ct : (wordAt ws i).text = [58, 61]
        · simp +contextual (disch := first | (simp only [factsC, clsL, clsS, clsC, isPtrD]; done) | omega | (simp only [push_nx, put_nx, del_nx]; omega) | (refine Nat.le_antisymm ?_ ?_ <;> simp only [push_nx, put_nx, del_nx] <;> omega) | exact dok (by kernel_rfl)) only [draw_calm, draw_calmA, wpy, factsC, wpb, cst, wpk, wpl, forall_const, implies_true, false_implies, Int.reduceLE, Int.reduceLT, Nat.reduceLeDiff, UInt8.reduceToNat, ↓reduceIte, Nat.reduceEqDiff, Nat.reduceAdd, reduceCtorEq, Int.reduceToNat, clsL, clsS, clsC, Tryd.f52, e0, e3, e5, e14, e15, e16, hi2, hgb, w0, w1, c9, c5, ct]
          exact ⟨.inr (by omega), hx1.trans ((hx.push _).put (by omega) _), by rw [eq_true (hyes (.inr (.inl ⟨c5, ct⟩)))]⟩
        · simp +contextual (disch := first | (simp only [factsC, clsL, clsS, clsC, isPtrD]; done) | omega | (simp only [push_nx, put_nx, del_nx]; omega) | (refine Nat.le_antisymm ?_ ?_ <;> simp only [push_nx, put_nx, del_nx] <;> omega) | exact dok (by kernel_rfl)) only [draw_calm, draw_calmA, wpy, factsC, wpb, cst, wpk, wpl, forall_const, implies_true, false_implies, Int.reduceLE, Int.reduceLT, Nat.reduceLeDiff, UInt8.reduceToNat, ↓reduceIte, Nat.reduceEqDiff, Nat.reduceAdd, reduceCtorEq, Int.reduceToNat, clsL, clsS, clsC, Tryd.f52, e0, e3, e5, e14, e15, e16, hi2, hgb, w0, w1, c9, c5, ct]
          refine ⟨.inr (by omega), _, ?_, i + 1, rfl, by omega, rfl, (hx.push _).put (by omega) _, hnext ?_⟩
          · omega
          rintro (q | q | q | q)
          · exact c9 q
          · exact ct q.2
          · exact absurd (q.1.symm.trans c5) (by decide)
          · exact absurd (q.1.symm.trans c5) (by decide)
      · by_cases c1 : (wordAt ws i).kind = 1
        · simp +contextual (disch := first | (simp only [factsC, clsL, clsS, clsC, isPtrD]; done) | omega | (simp only [push_nx, put_nx, del_nx]; omega) | (refine Nat.le_antisymm ?_ ?_ <;> simp only [push_nx, put_nx, del_nx] <;> omega) | exact dok (by kernel_rfl)) only [draw_calm, draw_calmA, wpy, factsC, wpb, cst, wpk, wpl, forall_const, implies_true, false_implies, Int.reduceLE, Int.reduceLT, Nat.reduceLeDiff, UInt8.reduceToNat, ↓reduceIte, Nat.reduceEqDiff, Nat.reduceAdd, reduceCtorEq, Int.reduceToNat, clsL, clsS, clsC, Tryd.f52, e0, e3, e5, e14, e15, e16, hi2, hgb, w0, w1, c9, c5, c1]
          refine ⟨.inr (by omega), callF_pure (in_spec hS _ m oddL n _ (by show m < h'.nx + 1; omega) ?_) ?_⟩
          · simp +contextual (disch := first | (simp only [factsC, clsL, clsS, clsC, isPtrD]; done) | omega | (simp only [push_nx, put_nx, del_nx]; omega) | (refine Nat.le_antisymm ?_ ?_ <;> simp only [push_nx, put_nx, del_nx] <;> omega) | fail) only [wpy, factsC, wpb, cst, wpk, wpl, forall_const, implies_true, false_implies, Int.reduceLE, Int.reduceLT, Nat.reduceLeDiff, UInt8.reduceToNat, ↓reduceIte, Nat.reduceEqDiff, Nat.reduceAdd, reduceCtorEq, Int.reduceToNat, clsL, clsS, clsC, hgm']
          rintro v h4 hx4 rfl
          have hn4 : h'.nx + 1 ≤ h4.nx := hx4.1
          have hX4 : Ext h1 h4 := ((hx.push _).put (by omega) _).trans hx4
          have hg4 : h4.get h'.nx = some (.cells [.int .i64 (1 : Nat), .str (wordAt ws i).text, .int .i64 (wordAt ws i).at_] 36 false) := by
            rw [hx4.2 h'.nx (Nat.lt_succ_self _)]
            simp +contextual (disch := first | (simp only [factsC, clsL, clsS, clsC, isPtrD]; done) | omega | (simp only [push_nx, put_nx, del_nx]; omega) | (refine Nat.le_antisymm ?_ ?_ <;> simp only [push_nx, put_nx, del_nx] <;> omega) | fail) only [wpy, factsC, wpb, cst, wpk, wpl, forall_const, implies_true, false_implies, Int.reduceLE, Int.reduceLT, Nat.reduceLeDiff, UInt8.reduceToNat, ↓reduceIte, Nat.reduceEqDiff, Nat.reduceAdd, reduceCtorEq, Int.reduceToNat, clsL, clsS, clsC]
          have ha4 : Wds h4 (V.slice b o ws.length mc) ws := (ha.ext hx1).ext hX4
          have hw4 : ¬ h'.nx = h4.nx := by omega
          by_cases cin : (wordAt ws i).text ∈ oddL
          · simp +contextual (disch := first | (simp only [factsC, clsL, clsS, clsC, isPtrD]; done) | omega | (simp only [push_nx, put_nx, del_nx]; omega) | (refine Nat.le_antisymm ?_ ?_ <;> simp only [push_nx, put_nx, del_nx] <;> omega) | exact dok (by kernel_rfl)) only [draw_calm, draw_calmA, wpy, factsC, wpb, cst, wpk, wpl, forall_const, implies_true, false_implies, Int.reduceLE, Int.reduceLT, Nat.reduceLeDiff, UInt8.reduceToNat, ↓reduceIte, Nat.reduceEqDiff, Nat.reduceAdd, reduceCtorEq, Int.reduceToNat, clsL, clsS, clsC, Tryd.f52, e0, e3, e5, e14, e15, e16, hi2, hgb, w0, w1, c9, c5, c1, hg4, hw4, cin]
            exact ⟨hx1.trans hX4, by rw [eq_true (hyes (.inr (.inr (.inl ⟨c1, cin⟩))))]⟩
          · by_cases cto : (wordAt ws i).text = intoT
            · by_cases cw : anyC ws 0 insL ∧ i = 1
              · obtain ⟨cw, rfl⟩ := cw
                simp +contextual (disch := first | (simp only [factsC, clsL, clsS, clsC, isPtrD]; done) | omega | (simp only [push_nx, put_nx, del_nx]; omega) | (refine Nat.le_antisymm ?_ ?_ <;> simp only [push_nx, put_nx, del_nx] <;> omega) | exact dok (by kernel_rfl)) only [draw_calm, draw_calmA, wpy, factsC, wpb, cst, wpk, wpl, forall_const, implies_true, false_implies, Int.reduceLE, Int.reduceLT, Nat.reduceLeDiff, UInt8.reduceToNat, ↓reduceIte, Nat.reduceEqDiff, Nat.reduceAdd, reduceCtorEq, Int.reduceToNat, clsL, clsS, clsC, Tryd.f52, e0, e3, e5, e14, e15, e16, hi2, hgb, w0, w1, c9, c5, c1, hg4, hw4, cin, cto, cw, intoT]
                refine ⟨fun q => absurd (cto ▸ q : (wordAt ws 1).text ∈ oddL) cin, fun _ => ?_⟩
                refine ⟨_, ?_, 1 + 1, rfl, by omega, rfl, hX4, hnext ?_⟩
                · omega
                rintro (q | q | q | q)
                · exact c9 q
                · exact c5 q.1
                · exact cin q.2
                · exact q.2.2.1 ⟨cw, rfl⟩
              · have cin' : ¬ [105, 110, 116, 111] ∈ oddL := by
                  rw [← show intoT = [105, 110, 116, 111] from rfl, ← cto]
                  exact cin
                have cw' : ¬ (anyC ws 0 insL ∧ i = 1) := cw
                simp +contextual (disch := first | (simp only [factsC, clsL, clsS, clsC, isPtrD]; done) | omega | (simp only [push_nx, put_nx, del_nx]; omega) | (refine Nat.le_antisymm ?_ ?_ <;> simp only [push_nx, put_nx, del_nx] <;> omega) | exact dok (by kernel_rfl)) only [draw_calm, draw_calmA, wpy, factsC, wpb, cst, wpk, wpl, forall_const, implies_true, false_implies, Int.reduceLE, Int.reduceLT, Nat.reduceLeDiff, UInt8.reduceToNat, ↓reduceIte, Nat.reduceEqDiff, Nat.reduceAdd, reduceCtorEq, Int.reduceToNat, clsL, clsS, clsC, Tryd.f52, e0, e3, e5, e14, e15, e16, hi2, hgb, w0, w1, c9, c5, c1, hg4, hw4, cin', cto, cw', intoT]
                refine callF_pure (file_spec hS _ ws h4 ha4 hw) ?_
                rintro v h5 hx5 rfl
                by_cases cf : allC ws 0 fileL
                · simp +contextual (disch := first | (simp only [factsC, clsL, clsS, clsC, isPtrD]; done) | omega | (simp only [push_nx, put_nx, del_nx]; omega) | (refine Nat.le_antisymm ?_ ?_ <;> simp only [push_nx, put_nx, del_nx] <;> omega) | exact dok (by kernel_rfl)) only [draw_calm, draw_calmA, wpy, factsC, wpb, cst, wpk, wpl, forall_const, implies_true, false_implies, Int.reduceLE, Int.reduceLT, Nat.reduceLeDiff, UInt8.reduceToNat, ↓reduceIte, Nat.reduceEqDiff, Nat.reduceAdd, reduceCtorEq, Int.reduceToNat, clsL, clsS, clsC, Tryd.f52, e0, e3, e5, e14, e15, e16, hi2, hgb, w0, w1, c9, c5, c1, hg4, hw4, cin', cto, cw', intoT, cf]
                  refine ⟨_, ?_, i + 1, rfl, by omega, rfl, hX4.trans hx5, hnext ?_⟩
                  · omega
                  rintro (q | q | q | q)
                  · exact c9 q
                  · exact c5 q.1
                  · exact cin q.2
                  · exact q.2.2.2 cf
                · simp +contextual (disch := first | (simp only [factsC, clsL, clsS, clsC, isPtrD]; done) | omega | (simp only [push_nx, put_nx, del_nx]; omega) | (refine Nat.le_antisymm ?_ ?_ <;> simp only [push_nx, put_nx, del_nx] <;> omega) | exact dok (by kernel_rfl)) only [draw_calm, draw_calmA, wpy, factsC, wpb, cst, wpk, wpl, forall_const, implies_true, false_implies, Int.reduceLE, Int.reduceLT, Nat.reduceLeDiff, UInt8.reduceToNat, ↓reduceIte, Nat.reduceEqDiff, Nat.reduceAdd, reduceCtorEq, Int.reduceToNat, clsL, clsS, clsC, Tryd.f52, e0, e3, e5, e14, e15, e16, hi2, hgb, w0, w1, c9, c5, c1, hg4, hw4, cin', cto, cw', intoT, cf]
                  exact ⟨hx1.trans (hX4.trans hx5), by rw [eq_true (hyes (.inr (.inr (.inr ⟨c1, cto, cw, cf⟩))))]⟩
            · have cto' : ¬ (wordAt ws i).text = [105, 110, 116, 111] := cto
              simp +contextual (disch := first | (simp only [factsC, clsL, clsS, clsC, isPtrD]; done) | omega | (simp only [push_nx, put_nx, del_nx]; omega) | (refine Nat.le_antisymm ?_ ?_ <;> simp only [push_nx, put_nx, del_nx] <;> omega) | exact dok (by kernel_rfl)) only [draw_calm, draw_calmA, wpy, factsC, wpb, cst, wpk, wpl, forall_const, implies_true, false_implies, Int.reduceLE, Int.reduceLT, Nat.reduceLeDiff, UInt8.reduceToNat, ↓reduceIte, Nat.reduceEqDiff, Nat.reduceAdd, reduceCtorEq, Int.reduceToNat, clsL, clsS, clsC, Tryd.f52, e0, e3, e5, e14, e15, e16, hi2, hgb, w0, w1, c9, c5, c1, hg4, hw4, cin, cto']
              refine ⟨_, ?_, i + 1, rfl, by omega, rfl, hX4, hnext ?_⟩
              · omega
              rintro (q | q | q | q)
              · exact c9 q
              · exact c5 q.1
              · exact cin q.2
              · exact cto q.2.1
        · simp +contextual (disch := first | (simp only [factsC, clsL, clsS, clsC, isPtrD]; done) | omega | (simp only [push_nx, put_nx, del_nx]; omega) | (refine Nat.le_antisymm ?_ ?_ <;> simp only [push_nx, put_nx, del_nx] <;> omega) | exact dok (by kernel_rfl)) only [draw_calm, draw_calmA, wpy, factsC, wpb, cst, wpk, wpl, forall_const, implies_true, false_implies, Int.reduceLE, Int.reduceLT, Nat.reduceLeDiff, UInt8.reduceToNat, ↓reduceIte, Nat.reduceEqDiff, Nat.reduceAdd, reduceCtorEq, Int.reduceToNat, clsL, clsS, clsC, Tryd.f52, e0, e3, e5, e14, e15, e16, hi2, hgb, w0, w1, c9, c5, c1]
          refine ⟨.inr (by omega), _, ?_, i + 1, rfl, by omega, rfl, (hx.push _).put (by omega) _, hnext ?_⟩
          · omega
          rintro (q | q | q | q)
          · exact c9 q
          · exact c5 q.1
          · exact c1 q.1
          · exact c1 q.1
  · simp +contextual (disch := first | (simp only [factsC, clsL, clsS, clsC, isPtrD]; done) | omega | (simp only [push_nx, put_nx, del_nx]; omega) | (refine Nat.le_antisymm ?_ ?_ <;> simp only [push_nx, put_nx, del_nx] <;> omega) | exact dok (by kernel_rfl)) only [draw_calm, draw_calmA, wpy, factsC, wpb, cst, wpk, wpl, forall_const, implies_true, false_implies, Int.reduceLE, Int.reduceLT, Nat.reduceLeDiff, UInt8.reduceToNat, ↓reduceIte, Nat.reduceEqDiff, Nat.reduceAdd, reduceCtorEq, Int.reduceToNat, clsL, clsS, clsC, Tryd.f52, e0, e3, e5, e14, e15, e16, hi2]
    exact ⟨hx1.trans hx, by
      have hno' : ¬ oddsP ws := fun ⟨j, hj, q⟩ => hno j (by omega) q
      rw [eq_false hno']⟩
end
end Go.Proofs.YtkibhdbmamfjcaaDoor

/-
  ClassifyOdd, walked: words with an odd one are odd; the law.
-/
set_option linter.unusedSimpArgs false
set_option linter.unusedVariables false
set_option linter.defProp false
set_option maxRecDepth 10000
namespace Go.Proofs.YtkibhdbmamfjcaaDoor
open Go.Proofs Go.Lx Go.Wx Go.IntWalk
noncomputable section

theorem wcells_app (a b : List WD) : wcells (a ++ b) = wcells a ++ wcells b := by simp [wcells]
theorem wcells_takeN (ws : List WD) (k : Nat) (hk : k ≤ ws.length) : (wcells ws).take (k * 3) = wcells (ws.take k) := by
  conv => lhs; rw [← List.take_append_drop k ws, wcells_app]
  rw [List.take_append_of_le_length (by rw [wcells_len, List.length_take]; omega), List.take_of_length_le (by rw [wcells_len, List.length_take]; omega)]
theorem wcells_isCell (l : List WD) : (wcells l).all V.isCell = true := by
  induction l with
  | nil => rfl
  | cons w l ih => show (w.cells ++ wcells l).all V.isCell = true; rw [List.all_append, ih]; rfl
/-- words with one put in -/
def putIn (ws : List WD) (k : Nat) (w : WD) : List WD := ws.take k ++ [w] ++ ws.drop k
theorem putIn_at {ws : List WD} {k : Nat} {w : WD} (hk : k ≤ ws.length) : k < (putIn ws k w).length ∧ wordAt (putIn ws k w) k = w ∧ (putIn ws k w).length = ws.length + 1 := by
  have hl : (putIn ws k w).length = ws.length + 1 := by simp [putIn]; omega
  refine ⟨by omega, ?_, hl⟩
  unfold wordAt putIn
  rw [List.append_assoc, List.getElem?_append_right (by rw [List.length_take]; omega), List.length_take, Nat.min_eq_left hk, Nat.sub_self]
  rfl
theorem lensW {s : List Nat} (hb : Bytes s) : (wordsOf s).length ≤ s.length := by
  unfold wordsOf
  split
  · exact Nat.zero_le _
  · cases ha : allF s with
    | inr r => exact Nat.zero_le _
    | inl ws =>
      have h1 := (allF_sorted hb ha).len
      show ws.length ≤ _
      omega
def pickL : List (List Nat) := [[108, 97, 115, 116, 95, 105, 110, 115, 101, 114, 116, 95, 105, 100], [102, 111, 117, 110, 100, 95, 114, 111, 119, 115], [114, 111, 119, 95, 99, 111, 117, 110, 116], [99, 111, 110, 110, 101, 99, 116, 105, 111, 110, 95, 105, 100], [119, 97, 114, 110, 105, 110, 103, 115], [111, 117, 116, 102, 105, 108, 101], [112, 114, 101, 112, 97, 114, 101], [101, 120, 101, 99, 117, 116, 101], [104, 97, 110, 100, 108, 101, 114], [99, 97, 108, 108], [120, 97]]
theorem cls_eql (q : Bool) : binV Tryd.prog .eql 45 q (.agg [.int .i64 13, .str [], .str []]) (.agg [.int .i64 13, .str [], .str []]) = some (bo True) := by
  have e1 : binV Tryd.prog .eql 45 q (.agg [.int .i64 13, .str [], .str []]) (.agg [.int .i64 13, .str [], .str []]) = eqOpV Tryd.prog .eql 45 (.agg [.int .i64 13, .str [], .str []]) (.agg [.int .i64 13, .str [], .str []]) := rfl
  have e2 : eqT Tryd.prog 45 (.agg [.int .i64 13, .str [], .str []]) (.agg [.int .i64 13, .str [], .str []]) = some true := by kernel_rfl
  rw [e1, eqOpV, e2]
  simp [bo]
/-- a number out of a range -/
def pickF (p : Int) (n : Nat) : Int := if p.tmod n < 0 then p.tmod n + n else p.tmod n
theorem pickF_ok (p : Int) {n : Nat} (hn : 0 < n) : 0 ≤ pickF p n ∧ pickF p n < n := by
  have h1 : p.tmod n < n := Int.tmod_lt_of_pos p (by omega)
  have h2 : -(n : Int) < p.tmod n := by
    have := Int.neg_tmod p n
    have h3 : (-p).tmod n < n := Int.tmod_lt_of_pos (-p) (by omega)
    omega
  unfold pickF
  split <;> omega
variable {S : Set0} (hS : StdC S)
include hS
theorem one_odd_spec (lv : V) (ws : List WD) (h : H) (ha : Wds h lv ws) (hw : ws.length < 2 ^ 40) (ho : oddsP ws) : Pure S.cfg 28 [lv] h fun v _ => v = .agg [.int .i64 13, .str [], .str []] := by
  refine into Tryd.f28 _ Tryd.func28 (hS.ownC _ (by decide)) rfl rfl (by kernel_rfl) (by kernel_rfl) ?_
  have a1 := ha.len
  have hw0 : 0 < ws.length := by obtain ⟨i, hi, _⟩ := ho; omega
  simp +contextual (disch := first | (simp only [factsC, clsL, clsS, clsC, isPtrD]; done) | omega | (simp only [push_nx, put_nx, del_nx]; omega) | (refine Nat.le_antisymm ?_ ?_ <;> simp only [push_nx, put_nx, del_nx] <;> omega) | fail) only [wpy, factsC, wpb, cst, wpk, wpl, forall_const, implies_true, false_implies, Int.reduceLE, Int.reduceLT, Nat.reduceLeDiff, UInt8.reduceToNat, ↓reduceIte, Nat.reduceEqDiff, Nat.reduceAdd, reduceCtorEq, Int.reduceToNat, clsL, clsS, clsC, Tryd.f28, a1]
  refine run_loop (fun k env h' => ∃ i : Nat, k = ws.length - i ∧ i ≤ ws.length ∧ env 0 = lv ∧ env 2 = .ptr h.nx 0 ∧ env 14 = lv ∧ env 15 = .int .i64 ws.length ∧ env 16 = .int .i64 i ∧ Ext h h' ∧ h.nx < h'.nx ∧ h'.get h.nx = some (.cells [.int .i64 0, .str [], .str []] 45 false)) ws.length ⟨0, ?_⟩ ?_
  · simp +contextual (disch := first | (simp only [factsC, clsL, clsS, clsC, isPtrD]; done) | omega | (simp only [push_nx, put_nx, del_nx]; omega) | (refine Nat.le_antisymm ?_ ?_ <;> simp only [push_nx, put_nx, del_nx] <;> omega) | fail) only [wpy, factsC, wpb, cst, wpk, wpl, forall_const, implies_true, false_implies, Int.reduceLE, Int.reduceLT, Nat.reduceLeDiff, UInt8.reduceToNat, ↓reduceIte, Nat.reduceEqDiff, Nat.reduceAdd, reduceCtorEq, Int.reduceToNat, clsL, clsS, clsC]
    exact ⟨(Nat.sub_zero _).symm, (Ext.refl h).push _, Nat.lt_succ_self _⟩
  rintro k env h' ⟨i, rfl, hi, e0, e2, e14, e15, e16, hx, hn, hg⟩
  have hne : ¬ h.nx = h'.nx := by omega
  by_cases hi2 : i < ws.length
  · obtain ⟨b, o, mc, c, e, fl, rfl, hbn, hgb, w0, w1⟩ := (ha.ext hx).get hi2
    rw [← wordAt_lt hi2] at w1
    have hW : (wordAt ws i).cells = [.int .i64 (wordAt ws i).kind, .str (wordAt ws i).text, .int .i64 (wordAt ws i).at_] := rfl
    rw [hW] at w1
    by_cases hc : (wordAt ws i).kind = 5 ∧ (wordAt ws i).text = [59]
    · simp +contextual (disch := first | (simp only [factsC, clsL, clsS, clsC, isPtrD]; done) | omega | (simp only [push_nx, put_nx, del_nx]; omega) | (refine Nat.le_antisymm ?_ ?_ <;> simp only [push_nx, put_nx, del_nx] <;> omega) | exact dok (by kernel_rfl)) only [draw_calm, draw_calmA, wpy, factsC, wpb, cst, wpk, wpl, forall_const, implies_true, false_implies, Int.reduceLE, Int.reduceLT, Nat.reduceLeDiff, UInt8.reduceToNat, ↓reduceIte, Nat.reduceEqDiff, Nat.reduceAdd, reduceCtorEq, Int.reduceToNat, clsL, clsS, clsC, Tryd.f28, e0, e2, e14, e15, e16, hi2, hgb, w0, w1, hc.1, hc.2, hg, hne]
      exact ⟨.inr (by omega), ((hx.push _).put (by omega) _).put (Nat.le_refl _) _⟩
    · simp +contextual (disch := first | (simp only [factsC, clsL, clsS, clsC, isPtrD]; done) | omega | (simp only [push_nx, put_nx, del_nx]; omega) | (refine Nat.le_antisymm ?_ ?_ <;> simp only [push_nx, put_nx, del_nx] <;> omega) | exact dok (by kernel_rfl)) only [draw_calm, draw_calmA, wpy, factsC, wpb, cst, wpk, wpl, forall_const, implies_true, false_implies, Int.reduceLE, Int.reduceLT, Nat.reduceLeDiff, UInt8.reduceToNat, ↓reduceIte, Nat.reduceEqDiff, Nat.reduceAdd, reduceCtorEq, Int.reduceToNat, clsL, clsS, clsC, Tryd.f28, e0, e2, e14, e15, e16, hi2, hgb, w0, w1, hc, hg, hne]
      refine ⟨.inr (by omega), _, ?_, i + 1, rfl, by omega, rfl, (hx.push _).put (by omega) _, by omega⟩
      omega
  · have hnz : ¬ ws.length = 0 := by omega
    simp +contextual (disch := first | (simp only [factsC, clsL, clsS, clsC, isPtrD]; done) | omega | (simp only [push_nx, put_nx, del_nx]; omega) | (refine Nat.le_antisymm ?_ ?_ <;> simp only [push_nx, put_nx, del_nx] <;> omega) | exact dok (by kernel_rfl)) only [draw_calm, draw_calmA, wpy, factsC, wpb, cst, wpk, wpl, forall_const, implies_true, false_implies, Int.reduceLE, Int.reduceLT, Nat.reduceLeDiff, UInt8.reduceToNat, ↓reduceIte, Nat.reduceEqDiff, Nat.reduceAdd, reduceCtorEq, Int.reduceToNat, clsL, clsS, clsC, Tryd.f28, e0, e2, e14, e15, e16, hi2, hnz, a1]
    refine callF_pure (cOdd_spec hS lv ws h' (ha.ext hx) hw) ?_
    rintro v h2 hx2 rfl
    have hg2 : h2.get h.nx = some (.cells [.int .i64 0, .str [], .str []] 45 false) := by rw [hx2.2 _ hn]; exact hg
    simp +contextual (disch := first | (simp only [factsC, clsL, clsS, clsC, isPtrD]; done) | omega | (simp only [push_nx, put_nx, del_nx]; omega) | (refine Nat.le_antisymm ?_ ?_ <;> simp only [push_nx, put_nx, del_nx] <;> omega) | exact dok (by kernel_rfl)) only [draw_calm, draw_calmA, wpy, factsC, wpb, cst, wpk, wpl, forall_const, implies_true, false_implies, Int.reduceLE, Int.reduceLT, Nat.reduceLeDiff, UInt8.reduceToNat, ↓reduceIte, Nat.reduceEqDiff, Nat.reduceAdd, reduceCtorEq, Int.reduceToNat, clsL, clsS, clsC, Tryd.f28, e0, e2, e14, e15, e16, hi2, hnz, a1, hg2, eq_true ho]
    exact (hx.trans hx2).put (Nat.le_refl _) _
theorem pick_spec (p : Int) (n : Nat) (h : H) (hn : 0 < n) (hn2 : n < 2 ^ 40) (hp : -9223372036854775808 ≤ p ∧ p < 9223372036854775808) : Exact S.cfg 27 [.int .i64 p, .int .i64 n] h (.int .i64 (pickF p n)) := by
  refine into Tryd.f27 _ Tryd.func27 (hS.ownC _ (by decide)) rfl rfl (by kernel_rfl) (by kernel_rfl) ?_
  have hnz : ¬ n = 0 := by omega
  have hok := pickF_ok p hn
  unfold pickF at hok ⊢
  by_cases hneg : p.tmod n < 0
  · rw [if_pos hneg] at hok ⊢
    have hwr : IntKind.i64.wrap (p.tmod n + n) = p.tmod n + n := i64_in _ (by omega)
    simp +contextual (disch := first | (simp only [factsC, clsL, clsS, clsC, isPtrD]; done) | omega | (simp only [push_nx, put_nx, del_nx]; omega) | (refine Nat.le_antisymm ?_ ?_ <;> simp only [push_nx, put_nx, del_nx] <;> omega) | fail) only [wpy, factsC, wpb, cst, wpk, wpl, forall_const, implies_true, false_implies, Int.reduceLE, Int.reduceLT, Nat.reduceLeDiff, UInt8.reduceToNat, ↓reduceIte, Nat.reduceEqDiff, Nat.reduceAdd, reduceCtorEq, Int.reduceToNat, clsL, clsS, clsC, Tryd.f27, hnz, hneg, hwr]
  · rw [if_neg hneg] at hok ⊢
    simp +contextual (disch := first | (simp only [factsC, clsL, clsS, clsC, isPtrD]; done) | omega | (simp only [push_nx, put_nx, del_nx]; omega) | (refine Nat.le_antisymm ?_ ?_ <;> simp only [push_nx, put_nx, del_nx] <;> omega) | fail) only [wpy, factsC, wpb, cst, wpk, wpl, forall_const, implies_true, false_implies, Int.reduceLE, Int.reduceLT, Nat.reduceLeDiff, UInt8.reduceToNat, ↓reduceIte, Nat.reduceEqDiff, Nat.reduceAdd, reduceCtorEq, Int.reduceToNat, clsL, clsS, clsC, Tryd.f27, hnz, hneg]
theorem kind_spec (k : Int) (h : H) : Pure S.cfg 29 [.int .i64 k] h fun v _ => v = .agg [.int .i64 k, .str [], .str []] := by
  refine into Tryd.f29 _ Tryd.func29 (hS.ownC _ (by decide)) rfl rfl (by kernel_rfl) (by kernel_rfl) ?_
  simp +contextual (disch := first | (simp only [factsC, clsL, clsS, clsC, isPtrD]; done) | omega | (simp only [push_nx, put_nx, del_nx]; omega) | (refine Nat.le_antisymm ?_ ?_ <;> simp only [push_nx, put_nx, del_nx] <;> omega) | fail) only [wpy, factsC, wpb, cst, wpk, wpl, forall_const, implies_true, false_implies, Int.reduceLE, Int.reduceLT, Nat.reduceLeDiff, UInt8.reduceToNat, ↓reduceIte, Nat.reduceEqDiff, Nat.reduceAdd, reduceCtorEq, Int.reduceToNat, clsL, clsS, clsC, Tryd.f29]
  exact ((Ext.refl h).push _).put (Nat.le_refl _) _
theorem oddLaw_spec (s : List Nat) (p q : Int) (h : H) (hb : Bytes s) (hs : s.length < 2 ^ 63) (hp : -9223372036854775808 ≤ p ∧ p < 9223372036854775808) (hq : -9223372036854775808 ≤ q ∧ q < 9223372036854775808) : Pure S.cfg 8 [.str s, .int .i64 p, .int .i64 q] h fun v _ => v = .bool true := by
  refine into Tryd.f8 _ Tryd.func8 (hS.ownC _ (by decide)) rfl rfl (by kernel_rfl) (by kernel_rfl) ?_
  have b1 := fun q a b c d => agg_neq 26 q a b c d rfl
  simp +contextual (disch := first | (simp only [factsC, clsL, clsS, clsC, isPtrD]; done) | omega | (simp only [push_nx, put_nx, del_nx]; omega) | (refine Nat.le_antisymm ?_ ?_ <;> simp only [push_nx, put_nx, del_nx] <;> omega) | fail) only [wpy, factsC, wpb, cst, wpk, wpl, forall_const, implies_true, false_implies, Int.reduceLE, Int.reduceLT, Nat.reduceLeDiff, UInt8.reduceToNat, ↓reduceIte, Nat.reduceEqDiff, Nat.reduceAdd, reduceCtorEq, Int.reduceToNat, clsL, clsS, clsC, Tryd.f8]
  refine callF_exact (hS.livesC _) ?_
  by_cases hm : 2000 < s.length
  · simp +contextual (disch := first | (simp only [factsC, clsL, clsS, clsC, isPtrD]; done) | omega | (simp only [push_nx, put_nx, del_nx]; omega) | (refine Nat.le_antisymm ?_ ?_ <;> simp only [push_nx, put_nx, del_nx] <;> omega) | fail) only [wpy, factsC, wpb, cst, wpk, wpl, forall_const, implies_true, false_implies, Int.reduceLE, Int.reduceLT, Nat.reduceLeDiff, UInt8.reduceToNat, ↓reduceIte, Nat.reduceEqDiff, Nat.reduceAdd, reduceCtorEq, Int.reduceToNat, clsL, clsS, clsC, Tryd.f8, hm]
    exact Ext.refl h
  simp +contextual (disch := first | (simp only [factsC, clsL, clsS, clsC, isPtrD]; done) | omega | (simp only [push_nx, put_nx, del_nx]; omega) | (refine Nat.le_antisymm ?_ ?_ <;> simp only [push_nx, put_nx, del_nx] <;> omega) | fail) only [wpy, factsC, wpb, cst, wpk, wpl, forall_const, implies_true, false_implies, Int.reduceLE, Int.reduceLT, Nat.reduceLeDiff, UInt8.reduceToNat, ↓reduceIte, Nat.reduceEqDiff, Nat.reduceAdd, reduceCtorEq, Int.reduceToNat, clsL, clsS, clsC, Tryd.f8, hm]
  refine callF_pure (all_spec hS.toStdF s _ hb hs) ?_
  intro v1 h1 hx1 hv1
  obtain ⟨l, rfl, hl⟩ := allV_form hv1
  obtain ⟨hl1, hl2⟩ := hl.cell
  have hla := accW hl
  have q1 := hx1.1
  have hwl := lensW hb
  by_cases hf : ¬ (faultE s = 0 ∧ faultP s = 0)
  · simp +contextual (disch := first | (simp only [factsC, clsL, clsS, clsC, isPtrD]; done) | omega | (simp only [push_nx, put_nx, del_nx]; omega) | (refine Nat.le_antisymm ?_ ?_ <;> simp only [push_nx, put_nx, del_nx] <;> omega) | fail) only [wpy, factsC, wpb, cst, wpk, wpl, forall_const, implies_true, false_implies, Int.reduceLE, Int.reduceLT, Nat.reduceLeDiff, UInt8.reduceToNat, ↓reduceIte, Nat.reduceEqDiff, Nat.reduceAdd, reduceCtorEq, Int.reduceToNat, clsL, clsS, clsC, Tryd.f8, hm, hl1, hl2, b1, hf]
    exact ⟨.inr q1, (hx1.push _).put q1 _⟩
  rw [Classical.not_not] at hf
  simp +contextual (disch := first | (simp only [factsC, clsL, clsS, clsC, isPtrD]; done) | omega | (simp only [push_nx, put_nx, del_nx]; omega) | (refine Nat.le_antisymm ?_ ?_ <;> simp only [push_nx, put_nx, del_nx] <;> omega) | fail) only [wpy, factsC, wpb, cst, wpk, wpl, forall_const, implies_true, false_implies, Int.reduceLE, Int.reduceLT, Nat.reduceLeDiff, UInt8.reduceToNat, ↓reduceIte, Nat.reduceEqDiff, Nat.reduceAdd, reduceCtorEq, Int.reduceToNat, clsL, clsS, clsC, Tryd.f8, hm, hl1, hl2, b1, hf.1, hf.2]
  refine ⟨.inr q1, ?_⟩
  obtain ⟨h2, hh2⟩ : ∃ h2, h2 = (h1.push (Ob.cells [V.int IntKind.i64 0, V.int IntKind.i64 0] 26 false)).put h1.nx (Ob.cells [V.int IntKind.i64 0, V.int IntKind.i64 0] 26 false) := ⟨_, rfl⟩
  rw [← hh2]
  have hn2 : h2.nx = h1.nx + 1 := by rw [hh2]; rfl
  have hx2 : Ext h h2 := by rw [hh2]; exact (hx1.push _).put q1 _
  have hl' := hl.ext (by rw [hh2]; exact Ext.new _ _ _ : Ext h1 h2)
  clear hh2 hl hv1
  refine callF_exact (pick_spec hS q 11 _ (by decide) (by decide) hq) ?_
  obtain ⟨k1, k2⟩ := pickF_ok q (n := 11) (by decide)
  obtain ⟨kn, hkn⟩ : ∃ kn : Nat, pickF q 11 = (kn : Int) := ⟨(pickF q 11).toNat, by omega⟩
  rw [hkn] at k2 ⊢
  have hk : kn < 11 := by omega
  have hki : (pickL.map V.str)[kn]? = some (.str (pickL[kn]'hk)) := by rw [List.getElem?_map, List.getElem?_eq_getElem hk]; rfl
  have hko : pickL[kn]'hk ∈ oddL := by
    have : ∀ j : Fin 11, pickL[j.val]'j.isLt ∈ oddL := by decide +kernel
    exact this ⟨kn, hk⟩
  simp only [pickL, List.map_cons, List.map_nil] at hki
  have hla2 : lenO (some (TypeDesc.slice 36)) l = some (.int .i64 (wordsOf s).length) := hla
  have hpo := pickF_ok p (n := (wordsOf s).length + 1) (Nat.succ_pos _)
  obtain ⟨kp, hkp⟩ : ∃ kp : Nat, pickF p ((wordsOf s).length + 1) = (kp : Int) := ⟨(pickF p ((wordsOf s).length + 1)).toNat, by omega⟩
  have hkl : kp ≤ (wordsOf s).length := by rw [hkp] at hpo; omega
  have hps : ∀ h0, Exact S.cfg 27 [.int .i64 p, .int .i64 ((wordsOf s).length + 1 : Nat)] h0 (.int .i64 kp) := fun h0 => by rw [← hkp]; exact pick_spec hS p _ h0 (Nat.succ_pos _) (by omega) hp
  by_cases c7 : q.tmod 7 = 0
  · by_cases c5 : q.tmod 5 = 0
    · simp +contextual (disch := first | (simp only [factsC, clsL, clsS, clsC, isPtrD]; done) | omega | (simp only [push_nx, put_nx, del_nx]; omega) | (refine Nat.le_antisymm ?_ ?_ <;> simp only [push_nx, put_nx, del_nx] <;> omega) | fail) only [wpy, factsC, wpb, cst, wpk, wpl, forall_const, implies_true, false_implies, Int.reduceLE, Int.reduceLT, Nat.reduceLeDiff, UInt8.reduceToNat, ↓reduceIte, Nat.reduceEqDiff, Nat.reduceAdd, reduceCtorEq, Int.reduceToNat, clsL, clsS, clsC, Tryd.f8, hm, hl1, hl2, b1, hf.1, hf.2, hk, hki, Int.reduceEq, c7, c5, hla2]
      refine ⟨.inr (by omega), .inr (by omega), .inr (by omega), callF_exact (hps _) ?_⟩
      generalize hH : H.put _ (h2.nx + 1) _ = h3
      have hn3 : h3.nx = h2.nx + 2 := by rw [← hH]; rfl
      have hg3 : h3.get (h2.nx + 1) = some (.cells [.int .i64 5, .str [58, 61], .int .i64 0] 36 false) := by rw [← hH]; exact put_eq rfl
      have hx3 : Ext h2 h3 := by
        rw [← hH]
        repeat' (first | exact Ext.refl _ | refine Ext.push ?_ _ | refine Ext.put ?_ (Nat.le_succ _) _)
      clear hH
      simp +contextual (disch := first | (simp only [factsC, clsL, clsS, clsC, isPtrD]; done) | omega | (simp only [push_nx, put_nx, del_nx]; omega) | (refine Nat.le_antisymm ?_ ?_ <;> simp only [push_nx, put_nx, del_nx] <;> omega) | fail) only [wpy, factsC, wpb, cst, wpk, wpl, forall_const, implies_true, false_implies, Int.reduceLE, Int.reduceLT, Nat.reduceLeDiff, UInt8.reduceToNat, ↓reduceIte, Nat.reduceEqDiff, Nat.reduceAdd, reduceCtorEq, Int.reduceToNat, clsL, clsS, clsC, Tryd.f8, hm, hl1, hl2, b1, hf.1, hf.2, hk, hki, Int.reduceEq, c7, c5, hla2, hg3]
      refine draw_by [(0, 3), (0, 5), (0, 6), (0, 10), (3, 6), (4, 5), (4, 6), (4, 10), (6, 10), (7, 10)] (by kernel_rfl) ?_
      simp +contextual (disch := first | (simp only [factsC, clsL, clsS, clsC, isPtrD]; done) | omega | (simp only [push_nx, put_nx, del_nx]; omega) | (refine Nat.le_antisymm ?_ ?_ <;> simp only [push_nx, put_nx, del_nx] <;> omega) | fail) only [wpy, factsC, wpb, cst, wpk, wpl, forall_const, implies_true, false_implies, Int.reduceLE, Int.reduceLT, Nat.reduceLeDiff, UInt8.reduceToNat, ↓reduceIte, Nat.reduceEqDiff, Nat.reduceAdd, reduceCtorEq, Int.reduceToNat, clsL, clsS, clsC, Tryd.f8, hm, hl1, hl2, b1, hf.1, hf.2, hk, hki, Int.reduceEq, c7, c5, hla2, hg3]
      have hxp : Ext h3 (h3.push (.cells [] 36 false)) := (Ext.refl _).push _
      refine slice_take (sz := 3) (len := (wordsOf s).length) (k := kp) (lv := l) (by kernel_rfl) (by kernel_rfl) (by decide) ?_ ?_ ((hl'.ext hx3).ext hxp) (wcells_len _) hkl ?_
      · simp +contextual (disch := first | (simp only [factsC, clsL, clsS, clsC, isPtrD]; done) | omega | (simp only [push_nx, put_nx, del_nx]; omega) | (refine Nat.le_antisymm ?_ ?_ <;> simp only [push_nx, put_nx, del_nx] <;> omega) | fail) only [wpy, factsC, wpb, cst, wpk, wpl, forall_const, implies_true, false_implies, Int.reduceLE, Int.reduceLT, Nat.reduceLeDiff, UInt8.reduceToNat, ↓reduceIte, Nat.reduceEqDiff, Nat.reduceAdd, reduceCtorEq, Int.reduceToNat, clsL, clsS, clsC]
      · simp +contextual (disch := first | (simp only [factsC, clsL, clsS, clsC, isPtrD]; done) | omega | (simp only [push_nx, put_nx, del_nx]; omega) | (refine Nat.le_antisymm ?_ ?_ <;> simp only [push_nx, put_nx, del_nx] <;> omega) | fail) only [wpy, factsC, wpb, cst, wpk, wpl, forall_const, implies_true, false_implies, Int.reduceLE, Int.reduceLT, Nat.reduceLeDiff, UInt8.reduceToNat, ↓reduceIte, Nat.reduceEqDiff, Nat.reduceAdd, reduceCtorEq, Int.reduceToNat, clsL, clsS, clsC]
      intro v4 L4 hs4 hL4 hv4
      simp +contextual (disch := first | (simp only [factsC, clsL, clsS, clsC, isPtrD]; done) | omega | (simp only [push_nx, put_nx, del_nx]; omega) | (refine Nat.le_antisymm ?_ ?_ <;> simp only [push_nx, put_nx, del_nx] <;> omega) | fail) only [wpy, factsC, wpb, cst, wpk, wpl, forall_const, implies_true, false_implies, Int.reduceLE, Int.reduceLT, Nat.reduceLeDiff, UInt8.reduceToNat, ↓reduceIte, Nat.reduceEqDiff, Nat.reduceAdd, reduceCtorEq, Int.reduceToNat, clsL, clsS, clsC, Tryd.f8, hm, hl1, hl2, b1, hf.1, hf.2, hk, hki, Int.reduceEq, c7, c5, hla2, hg3]
      refine append_lst (n0 := h3.nx) (cells := []) (sv := .slice h3.nx 0 0 0) (xv := v4) ?_ ?_ ap23 ⟨.slice 36, by kernel_rfl, rfl⟩ (.inr ⟨rfl, h3.nx, Nat.le_refl _, Nat.lt_succ_self _, rfl, push_eq rfl⟩) hs4 ?_ ?_ (by decide) (fun k hk => by rw [fresh_def]; exact .inl (by have := hx3.1; have := hx2.1; omega)) (Nat.le_succ _) ?_
      · simp +contextual (disch := first | (simp only [factsC, clsL, clsS, clsC, isPtrD]; done) | omega | (simp only [push_nx, put_nx, del_nx]; omega) | (refine Nat.le_antisymm ?_ ?_ <;> simp only [push_nx, put_nx, del_nx] <;> omega) | fail) only [wpy, factsC, wpb, cst, wpk, wpl, forall_const, implies_true, false_implies, Int.reduceLE, Int.reduceLT, Nat.reduceLeDiff, UInt8.reduceToNat, ↓reduceIte, Nat.reduceEqDiff, Nat.reduceAdd, reduceCtorEq, Int.reduceToNat, clsL, clsS, clsC]
      · simp +contextual (disch := first | (simp only [factsC, clsL, clsS, clsC, isPtrD]; done) | omega | (simp only [push_nx, put_nx, del_nx]; omega) | (refine Nat.le_antisymm ?_ ?_ <;> simp only [push_nx, put_nx, del_nx] <;> omega) | fail) only [wpy, factsC, wpb, cst, wpk, wpl, forall_const, implies_true, false_implies, Int.reduceLE, Int.reduceLT, Nat.reduceLeDiff, UInt8.reduceToNat, ↓reduceIte, Nat.reduceEqDiff, Nat.reduceAdd, reduceCtorEq, Int.reduceToNat, clsL, clsS, clsC]
      · rw [wcells_takeN _ _ hkl]; exact wcells_isCell _
      · rw [wcells_takeN _ _ hkl, wcells_len, List.length_take]; simp only [List.length_nil]; omega
      intro v5 h5 L5 hl5 hn5 hk5 hf5 hL5
      have hn5 : h3.nx + 1 ≤ h5.nx := hn5
      have hg5 : h5.get (h2.nx + 1) = some (.cells [.int .i64 5, .str [58, 61], .int .i64 0] 36 false) := by rw [hf5 _ (by omega), push_ne (by omega)]; exact hg3
      have hx5 : Ext h3 h5 := ⟨by omega, fun k hk => by rw [hf5 k hk, push_ne (by omega)]⟩
      simp +contextual (disch := first | (simp only [factsC, clsL, clsS, clsC, isPtrD]; done) | omega | (simp only [push_nx, put_nx, del_nx]; omega) | (refine Nat.le_antisymm ?_ ?_ <;> simp only [push_nx, put_nx, del_nx] <;> omega) | fail) only [wpy, factsC, wpb, cst, wpk, wpl, forall_const, implies_true, false_implies, Int.reduceLE, Int.reduceLT, Nat.reduceLeDiff, UInt8.reduceToNat, ↓reduceIte, Nat.reduceEqDiff, Nat.reduceAdd, reduceCtorEq, Int.reduceToNat, clsL, clsS, clsC, Tryd.f8, hm, hl1, hl2, b1, hf.1, hf.2, hk, hki, Int.reduceEq, c7, c5, hla2, hg5]
      refine append_lst (n0 := h3.nx) (sv := v5) (xv := .slice h5.nx 0 1 1) (new := [.int .i64 5, .str [58, 61], .int .i64 0]) ?_ ?_ ap23 ⟨.slice 36, by kernel_rfl, rfl⟩ (hl5.ext ((Ext.refl _).push _)) (.inr ⟨h5.nx, 0, 1, 1, rfl, Nat.lt_succ_self _, by rw [push_eq rfl]; exact rdC_all rfl, rfl⟩) rfl ?_ (by decide) (fun k hk => by rw [fresh_def]; exact .inl (by have := hx3.1; have := hx2.1; omega)) (by show h3.nx ≤ h5.nx + 1; omega) ?_
      · simp +contextual (disch := first | (simp only [factsC, clsL, clsS, clsC, isPtrD]; done) | omega | (simp only [push_nx, put_nx, del_nx]; omega) | (refine Nat.le_antisymm ?_ ?_ <;> simp only [push_nx, put_nx, del_nx] <;> omega) | fail) only [wpy, factsC, wpb, cst, wpk, wpl, forall_const, implies_true, false_implies, Int.reduceLE, Int.reduceLT, Nat.reduceLeDiff, UInt8.reduceToNat, ↓reduceIte, Nat.reduceEqDiff, Nat.reduceAdd, reduceCtorEq, Int.reduceToNat, clsL, clsS, clsC]
      · simp +contextual (disch := first | (simp only [factsC, clsL, clsS, clsC, isPtrD]; done) | omega | (simp only [push_nx, put_nx, del_nx]; omega) | (refine Nat.le_antisymm ?_ ?_ <;> simp only [push_nx, put_nx, del_nx] <;> omega) | fail) only [wpy, factsC, wpb, cst, wpk, wpl, forall_const, implies_true, false_implies, Int.reduceLE, Int.reduceLT, Nat.reduceLeDiff, UInt8.reduceToNat, ↓reduceIte, Nat.reduceEqDiff, Nat.reduceAdd, reduceCtorEq, Int.reduceToNat, clsL, clsS, clsC]
      · rw [wcells_takeN _ _ hkl, List.nil_append, wcells_len, List.length_take]; simp only [List.length_cons, List.length_nil]; omega
      intro v6 h6 L6 hl6 hn6 hk6 hf6 hL6
      have hn6 : h5.nx + 1 ≤ h6.nx := hn6
      have hx6 : Ext h3 h6 := ⟨by omega, fun k hk => by rw [hf6 k hk, push_ne (by omega), hx5.2 k hk]⟩
      simp +contextual (disch := first | (simp only [factsC, clsL, clsS, clsC, isPtrD]; done) | omega | (simp only [push_nx, put_nx, del_nx]; omega) | (refine Nat.le_antisymm ?_ ?_ <;> simp only [push_nx, put_nx, del_nx] <;> omega) | fail) only [wpy, factsC, wpb, cst, wpk, wpl, forall_const, implies_true, false_implies, Int.reduceLE, Int.reduceLT, Nat.reduceLeDiff, UInt8.reduceToNat, ↓reduceIte, Nat.reduceEqDiff, Nat.reduceAdd, reduceCtorEq, Int.reduceToNat, clsL, clsS, clsC, Tryd.f8, hm, hl1, hl2, b1, hf.1, hf.2, hk, hki, Int.reduceEq, c7, c5, hla2]
      refine slice_drop (sz := 3) (len := (wordsOf s).length) (k := kp) (lv := l) (by kernel_rfl) (by kernel_rfl) (by decide) ?_ ?_ ((hl'.ext hx3).ext hx6) (wcells_len _) hkl ?_
      · simp +contextual (disch := first | (simp only [factsC, clsL, clsS, clsC, isPtrD]; done) | omega | (simp only [push_nx, put_nx, del_nx]; omega) | (refine Nat.le_antisymm ?_ ?_ <;> simp only [push_nx, put_nx, del_nx] <;> omega) | fail) only [wpy, factsC, wpb, cst, wpk, wpl, forall_const, implies_true, false_implies, Int.reduceLE, Int.reduceLT, Nat.reduceLeDiff, UInt8.reduceToNat, ↓reduceIte, Nat.reduceEqDiff, Nat.reduceAdd, reduceCtorEq, Int.reduceToNat, clsL, clsS, clsC]
      · simp +contextual (disch := first | (simp only [factsC, clsL, clsS, clsC, isPtrD]; done) | omega | (simp only [push_nx, put_nx, del_nx]; omega) | (refine Nat.le_antisymm ?_ ?_ <;> simp only [push_nx, put_nx, del_nx] <;> omega) | fail) only [wpy, factsC, wpb, cst, wpk, wpl, forall_const, implies_true, false_implies, Int.reduceLE, Int.reduceLT, Nat.reduceLeDiff, UInt8.reduceToNat, ↓reduceIte, Nat.reduceEqDiff, Nat.reduceAdd, reduceCtorEq, Int.reduceToNat, clsL, clsS, clsC]
      intro v7 L7 hs7 hL7 hv7
      simp +contextual (disch := first | (simp only [factsC, clsL, clsS, clsC, isPtrD]; done) | omega | (simp only [push_nx, put_nx, del_nx]; omega) | (refine Nat.le_antisymm ?_ ?_ <;> simp only [push_nx, put_nx, del_nx] <;> omega) | fail) only [wpy, factsC, wpb, cst, wpk, wpl, forall_const, implies_true, false_implies, Int.reduceLE, Int.reduceLT, Nat.reduceLeDiff, UInt8.reduceToNat, ↓reduceIte, Nat.reduceEqDiff, Nat.reduceAdd, reduceCtorEq, Int.reduceToNat, clsL, clsS, clsC, Tryd.f8, hm, hl1, hl2, b1, hf.1, hf.2, hk, hki, Int.reduceEq, c7, c5, hla2]
      refine append_lst (n0 := h3.nx) (sv := v6) (xv := v7) ?_ ?_ ap23 ⟨.slice 36, by kernel_rfl, rfl⟩ hl6 hs7 ?_ ?_ (by decide) (fun k hk => by rw [fresh_def]; exact .inl (by have := hx3.1; have := hx2.1; omega)) hx6.1 ?_
      · simp +contextual (disch := first | (simp only [factsC, clsL, clsS, clsC, isPtrD]; done) | omega | (simp only [push_nx, put_nx, del_nx]; omega) | (refine Nat.le_antisymm ?_ ?_ <;> simp only [push_nx, put_nx, del_nx] <;> omega) | fail) only [wpy, factsC, wpb, cst, wpk, wpl, forall_const, implies_true, false_implies, Int.reduceLE, Int.reduceLT, Nat.reduceLeDiff, UInt8.reduceToNat, ↓reduceIte, Nat.reduceEqDiff, Nat.reduceAdd, reduceCtorEq, Int.reduceToNat, clsL, clsS, clsC]
      · simp +contextual (disch := first | (simp only [factsC, clsL, clsS, clsC, isPtrD]; done) | omega | (simp only [push_nx, put_nx, del_nx]; omega) | (refine Nat.le_antisymm ?_ ?_ <;> simp only [push_nx, put_nx, del_nx] <;> omega) | fail) only [wpy, factsC, wpb, cst, wpk, wpl, forall_const, implies_true, false_implies, Int.reduceLE, Int.reduceLT, Nat.reduceLeDiff, UInt8.reduceToNat, ↓reduceIte, Nat.reduceEqDiff, Nat.reduceAdd, reduceCtorEq, Int.reduceToNat, clsL, clsS, clsC]
      · rw [wcells_drop]; exact wcells_isCell _
      · rw [wcells_drop, wcells_takeN _ _ hkl, List.length_append, List.nil_append, wcells_len, wcells_len, List.length_take, List.length_drop]; simp only [List.length_cons, List.length_nil]; omega
      intro v8 h8 L8 hl8 hn8 hk8 hf8 hL8
      simp +contextual (disch := first | (simp only [factsC, clsL, clsS, clsC, isPtrD]; done) | omega | (simp only [push_nx, put_nx, del_nx]; omega) | (refine Nat.le_antisymm ?_ ?_ <;> simp only [push_nx, put_nx, del_nx] <;> omega) | fail) only [wpy, factsC, wpb, cst, wpk, wpl, forall_const, implies_true, false_implies, Int.reduceLE, Int.reduceLT, Nat.reduceLeDiff, UInt8.reduceToNat, ↓reduceIte, Nat.reduceEqDiff, Nat.reduceAdd, reduceCtorEq, Int.reduceToNat, clsL, clsS, clsC, Tryd.f8, hm, hl1, hl2, b1, hf.1, hf.2, hk, hki, Int.reduceEq, c7, c5, hla2]
      have hlb : ∀ k o n m, l = .slice k o n m → k < h2.nx := fun k o n m q => (hl'.blk q).2
      have hv4b : ∀ k o n m, v4 = .slice k o n m → k < h2.nx := fun k o n m q => by obtain ⟨_, _, _, q⟩ := hv4 _ _ _ _ q; exact hlb _ _ _ _ q
      have hv7b : ∀ k o n m, v7 = .slice k o n m → k < h2.nx := fun k o n m q => by obtain ⟨_, _, _, q⟩ := hv7 _ _ _ _ q; exact hlb _ _ _ _ q
      have bL4 : ∀ x ∈ L4, blkOf x < h2.nx ∧ x.isW = false := fun x hx => by obtain ⟨⟨_, _, _, q⟩, q2⟩ := hL4 x hx; exact ⟨hlb _ _ _ _ q, q2⟩
      have bL7 : ∀ x ∈ L7, blkOf x < h2.nx ∧ x.isW = false := fun x hx => by obtain ⟨⟨_, _, _, q⟩, q2⟩ := hL7 x hx; exact ⟨hlb _ _ _ _ q, q2⟩
      have bL5 : ∀ x ∈ L5, (blkOf x < h2.nx ∧ x.isW = false) ∨ (h3.nx ≤ blkOf x ∧ blkOf x < h5.nx) := fun x hx => by
        rcases hL5 x hx with ⟨⟨_, _, _, q⟩, q2⟩ | ⟨q1, q2⟩ | ⟨_, _, _, q⟩
        · exact .inl ⟨hv4b _ _ _ _ q, q2⟩
        · exact .inr ⟨by have : h3.nx + 1 ≤ blkOf x := q1; omega, q2⟩
        · injection q with e1 e2 e3 e4; exact .inr ⟨by omega, by omega⟩
      have bL6 : ∀ x ∈ L6, h3.nx ≤ blkOf x ∧ blkOf x < h6.nx := fun x hx => by
        rcases hL6 x hx with ⟨⟨_, _, _, q⟩, q2⟩ | ⟨q1, q2⟩ | ⟨_, _, _, q⟩
        · injection q with e1 e2 e3 e4; exact ⟨by omega, by omega⟩
        · exact ⟨by have : h5.nx + 1 ≤ blkOf x := q1; omega, q2⟩
        · rcases hl5 with ha | ⟨_, b, g1, g2, g3, _⟩
          · have := ha.blk q; exact ⟨this.1, by omega⟩
          · rw [g3] at q; injection q with e1 e2 e3 e4; exact ⟨by omega, by omega⟩
      refine ⟨fun pr hpr => ?_, ?_⟩
      · simp only [List.mem_cons, List.not_mem_nil, or_false] at hpr
        rcases hpr with rfl | rfl | rfl | rfl | rfl | rfl | rfl | rfl | rfl | rfl
        · exact pair_one rfl rfl (apart_blk fun x hx y hy => by rw [List.mem_singleton.1 hx]; have := (bL4 y hy).1; show h3.nx ≠ blkOf y; omega)
        · exact pair_one rfl rfl (apart_blk fun x hx y hy => by rw [List.mem_singleton.1 hx, List.mem_singleton.1 hy]; show h3.nx ≠ h2.nx + 1; omega)
        · exact pair_one rfl rfl (apart_blk fun x hx y hy => by rw [List.mem_singleton.1 hx, List.mem_singleton.1 hy]; show h3.nx ≠ h5.nx; omega)
        · exact pair_one rfl rfl (apart_blk fun x hx y hy => by rw [List.mem_singleton.1 hx]; have := (bL7 y hy).1; show h3.nx ≠ blkOf y; omega)
        · exact pair_one rfl rfl (apart_blk fun x hx y hy => by rw [List.mem_singleton.1 hy]; have := (bL4 x hx).1; show blkOf x ≠ h5.nx; omega)
        · exact pair_one rfl rfl (apart_blk fun x hx y hy => by rw [List.mem_singleton.1 hy]; have := bL5 x hx; show blkOf x ≠ h2.nx + 1; omega)
        · exact pair_one rfl rfl (apart_blk fun x hx y hy => by rw [List.mem_singleton.1 hy]; have := bL5 x hx; show blkOf x ≠ h5.nx; omega)
        · exact pair_one rfl rfl (apart_w fun x hx y hy hw => by
            have h7 := bL7 y hy
            rw [h7.2] at hw
            rcases bL5 x hx with q | q
            · rw [q.2] at hw; rcases hw with hw | hw <;> cases hw
            · omega)
        · exact pair_one rfl rfl (apart_blk fun x hx y hy => by rw [List.mem_singleton.1 hx]; have := (bL7 y hy).1; show h5.nx ≠ blkOf y; omega)
        · exact pair_one rfl rfl (apart_blk fun x hx y hy => by have := (bL7 y hy).1; have := (bL6 x hx).1; omega)
      have hwc : (([] ++ List.take (kp * 3) (wcells (wordsOf s))) ++ [V.int IntKind.i64 5, V.str [58, 61], V.int IntKind.i64 0]) ++ List.drop (kp * 3) (wcells (wordsOf s)) = wcells (putIn (wordsOf s) kp ⟨5, [58, 61], 0⟩) := by
        rw [wcells_takeN _ _ hkl, wcells_drop, List.nil_append, putIn, wcells_app, wcells_app]
        rfl
      rw [hwc] at hl8
      obtain ⟨p1, p2, p3⟩ := putIn_at (w := ⟨5, [58, 61], 0⟩) hkl
      have hacc : Wx.Acc h3.nx h8 v8 (wcells (putIn (wordsOf s) kp ⟨5, [58, 61], 0⟩)) 36 3 := by
        rcases hl8 with ha | ⟨q, _⟩
        · exact ha
        · have := congrArg List.length q
          rw [wcells_len, p3] at this
          simp at this
      have hodd : oddsP (putIn (wordsOf s) kp ⟨5, [58, 61], 0⟩) := ⟨kp, p1, by unfold oddW; rw [p2]; exact .inr (.inl ⟨rfl, rfl⟩)⟩
      have hX8 : Ext h h8 := by
        refine hx2.trans (hx3.trans ⟨by have : h6.nx ≤ h8.nx := hn8; omega, fun k hk => by rw [hf8 k hk, hx6.2 k hk]⟩)
      refine callF_pure (one_odd_spec hS v8 _ h8 (.of_acc hacc) (by rw [p3]; omega) hodd) ?_
      rintro v h9 hx9 rfl
      simp +contextual (disch := first | (simp only [factsC, clsL, clsS, clsC, isPtrD]; done) | omega | (simp only [push_nx, put_nx, del_nx]; omega) | (refine Nat.le_antisymm ?_ ?_ <;> simp only [push_nx, put_nx, del_nx] <;> omega) | fail) only [wpy, factsC, wpb, cst, wpk, wpl, forall_const, implies_true, false_implies, Int.reduceLE, Int.reduceLT, Nat.reduceLeDiff, UInt8.reduceToNat, ↓reduceIte, Nat.reduceEqDiff, Nat.reduceAdd, reduceCtorEq, Int.reduceToNat, clsL, clsS, clsC, Tryd.f8, hm, hl1, hl2, b1, hf.1, hf.2, hk, hki, Int.reduceEq, c7, c5, hla2]
      refine callF_pure (kind_spec hS 13 h9) ?_
      rintro v h10 hx10 rfl
      simp +contextual (disch := first | (simp only [factsC, clsL, clsS, clsC, isPtrD]; done) | omega | (simp only [push_nx, put_nx, del_nx]; omega) | (refine Nat.le_antisymm ?_ ?_ <;> simp only [push_nx, put_nx, del_nx] <;> omega) | fail) only [wpy, factsC, wpb, cst, wpk, wpl, forall_const, implies_true, false_implies, Int.reduceLE, Int.reduceLT, Nat.reduceLeDiff, UInt8.reduceToNat, ↓reduceIte, Nat.reduceEqDiff, Nat.reduceAdd, reduceCtorEq, Int.reduceToNat, clsL, clsS, clsC, Tryd.f8, hm, hl1, hl2, b1, hf.1, hf.2, hk, hki, Int.reduceEq, c7, c5, hla2, cls_eql]
      exact (hX8.trans hx9).trans hx10
    · simp +contextual (disch := first | (simp only [factsC, clsL, clsS, clsC, isPtrD]; done) | omega | (simp only [push_nx, put_nx, del_nx]; omega) | (refine Nat.le_antisymm ?_ ?_ <;> simp only [push_nx, put_nx, del_nx] <;> omega) | fail) only [wpy, factsC, wpb, cst, wpk, wpl, forall_const, implies_true, false_implies, Int.reduceLE, Int.reduceLT, Nat.reduceLeDiff, UInt8.reduceToNat, ↓reduceIte, Nat.reduceEqDiff, Nat.reduceAdd, reduceCtorEq, Int.reduceToNat, clsL, clsS, clsC, Tryd.f8, hm, hl1, hl2, b1, hf.1, hf.2, hk, hki, Int.reduceEq, c7, c5, hla2]
      refine ⟨.inr (by omega), .inr (by omega), callF_exact (hps _) ?_⟩
      generalize hH : H.put _ (h2.nx + 1) _ = h3
      have hn3 : h3.nx = h2.nx + 2 := by rw [← hH]; rfl
      have hg3 : h3.get (h2.nx + 1) = some (.cells [.int .i64 5, .str [58, 61], .int .i64 0] 36 false) := by rw [← hH]; exact put_eq rfl
      have hx3 : Ext h2 h3 := by
        rw [← hH]
        repeat' (first | exact Ext.refl _ | refine Ext.push ?_ _ | refine Ext.put ?_ (Nat.le_succ _) _)
      clear hH
      simp +contextual (disch := first | (simp only [factsC, clsL, clsS, clsC, isPtrD]; done) | omega | (simp only [push_nx, put_nx, del_nx]; omega) | (refine Nat.le_antisymm ?_ ?_ <;> simp only [push_nx, put_nx, del_nx] <;> omega) | fail) only [wpy, factsC, wpb, cst, wpk, wpl, forall_const, implies_true, false_implies, Int.reduceLE, Int.reduceLT, Nat.reduceLeDiff, UInt8.reduceToNat, ↓reduceIte, Nat.reduceEqDiff, Nat.reduceAdd, reduceCtorEq, Int.reduceToNat, clsL, clsS, clsC, Tryd.f8, hm, hl1, hl2, b1, hf.1, hf.2, hk, hki, Int.reduceEq, c7, c5, hla2, hg3]
      refine draw_by [(0, 3), (0, 5), (0, 6), (0, 10), (3, 6), (4, 5), (4, 6), (4, 10), (6, 10), (7, 10)] (by kernel_rfl) ?_
      simp +contextual (disch := first | (simp only [factsC, clsL, clsS, clsC, isPtrD]; done) | omega | (simp only [push_nx, put_nx, del_nx]; omega) | (refine Nat.le_antisymm ?_ ?_ <;> simp only [push_nx, put_nx, del_nx] <;> omega) | fail) only [wpy, factsC, wpb, cst, wpk, wpl, forall_const, implies_true, false_implies, Int.reduceLE, Int.reduceLT, Nat.reduceLeDiff, UInt8.reduceToNat, ↓reduceIte, Nat.reduceEqDiff, Nat.reduceAdd, reduceCtorEq, Int.reduceToNat, clsL, clsS, clsC, Tryd.f8, hm, hl1, hl2, b1, hf.1, hf.2, hk, hki, Int.reduceEq, c7, c5, hla2, hg3]
      have hxp : Ext h3 (h3.push (.cells [] 36 false)) := (Ext.refl _).push _
      refine slice_take (sz := 3) (len := (wordsOf s).length) (k := kp) (lv := l) (by kernel_rfl) (by kernel_rfl) (by decide) ?_ ?_ ((hl'.ext hx3).ext hxp) (wcells_len _) hkl ?_
      · simp +contextual (disch := first | (simp only [factsC, clsL, clsS, clsC, isPtrD]; done) | omega | (simp only [push_nx, put_nx, del_nx]; omega) | (refine Nat.le_antisymm ?_ ?_ <;> simp only [push_nx, put_nx, del_nx] <;> omega) | fail) only [wpy, factsC, wpb, cst, wpk, wpl, forall_const, implies_true, false_implies, Int.reduceLE, Int.reduceLT, Nat.reduceLeDiff, UInt8.reduceToNat, ↓reduceIte, Nat.reduceEqDiff, Nat.reduceAdd, reduceCtorEq, Int.reduceToNat, clsL, clsS, clsC]
      · simp +contextual (disch := first | (simp only [factsC, clsL, clsS, clsC, isPtrD]; done) | omega | (simp only [push_nx, put_nx, del_nx]; omega) | (refine Nat.le_antisymm ?_ ?_ <;> simp only [push_nx, put_nx, del_nx] <;> omega) | fail) only [wpy, factsC, wpb, cst, wpk, wpl, forall_const, implies_true, false_implies, Int.reduceLE, Int.reduceLT, Nat.reduceLeDiff, UInt8.reduceToNat, ↓reduceIte, Nat.reduceEqDiff, Nat.reduceAdd, reduceCtorEq, Int.reduceToNat, clsL, clsS, clsC]
      intro v4 L4 hs4 hL4 hv4
      simp +contextual (disch := first | (simp only [factsC, clsL, clsS, clsC, isPtrD]; done) | omega | (simp only [push_nx, put_nx, del_nx]; omega) | (refine Nat.le_antisymm ?_ ?_ <;> simp only [push_nx, put_nx, del_nx] <;> omega) | fail) only [wpy, factsC, wpb, cst, wpk, wpl, forall_const, implies_true, false_implies, Int.reduceLE, Int.reduceLT, Nat.reduceLeDiff, UInt8.reduceToNat, ↓reduceIte, Nat.reduceEqDiff, Nat.reduceAdd, reduceCtorEq, Int.reduceToNat, clsL, clsS, clsC, Tryd.f8, hm, hl1, hl2, b1, hf.1, hf.2, hk, hki, Int.reduceEq, c7, c5, hla2, hg3]
      refine append_lst (n0 := h3.nx) (cells := []) (sv := .slice h3.nx 0 0 0) (xv := v4) ?_ ?_ ap23 ⟨.slice 36, by kernel_rfl, rfl⟩ (.inr ⟨rfl, h3.nx, Nat.le_refl _, Nat.lt_succ_self _, rfl, push_eq rfl⟩) hs4 ?_ ?_ (by decide) (fun k hk => by rw [fresh_def]; exact .inl (by have := hx3.1; have := hx2.1; omega)) (Nat.le_succ _) ?_
      · simp +contextual (disch := first | (simp only [factsC, clsL, clsS, clsC, isPtrD]; done) | omega | (simp only [push_nx, put_nx, del_nx]; omega) | (refine Nat.le_antisymm ?_ ?_ <;> simp only [push_nx, put_nx, del_nx] <;> omega) | fail) only [wpy, factsC, wpb, cst, wpk, wpl, forall_const, implies_true, false_implies, Int.reduceLE, Int.reduceLT, Nat.reduceLeDiff, UInt8.reduceToNat, ↓reduceIte, Nat.reduceEqDiff, Nat.reduceAdd, reduceCtorEq, Int.reduceToNat, clsL, clsS, clsC]
      · simp +contextual (disch := first | (simp only [factsC, clsL, clsS, clsC, isPtrD]; done) | omega | (simp only [push_nx, put_nx, del_nx]; omega) | (refine Nat.le_antisymm ?_ ?_ <;> simp only [push_nx, put_nx, del_nx] <;> omega) | fail) only [wpy, factsC, wpb, cst, wpk, wpl, forall_const, implies_true, false_implies, Int.reduceLE, Int.reduceLT, Nat.reduceLeDiff, UInt8.reduceToNat, ↓reduceIte, Nat.reduceEqDiff, Nat.reduceAdd, reduceCtorEq, Int.reduceToNat, clsL, clsS, clsC]
      · rw [wcells_takeN _ _ hkl]; exact wcells_isCell _
      · rw [wcells_takeN _ _ hkl, wcells_len, List.length_take]; simp only [List.length_nil]; omega
      intro v5 h5 L5 hl5 hn5 hk5 hf5 hL5
      have hn5 : h3.nx + 1 ≤ h5.nx := hn5
      have hg5 : h5.get (h2.nx + 1) = some (.cells [.int .i64 5, .str [58, 61], .int .i64 0] 36 false) := by rw [hf5 _ (by omega), push_ne (by omega)]; exact hg3
      have hx5 : Ext h3 h5 := ⟨by omega, fun k hk => by rw [hf5 k hk, push_ne (by omega)]⟩
      simp +contextual (disch := first | (simp only [factsC, clsL, clsS, clsC, isPtrD]; done) | omega | (simp only [push_nx, put_nx, del_nx]; omega) | (refine Nat.le_antisymm ?_ ?_ <;> simp only [push_nx, put_nx, del_nx] <;> omega) | fail) only [wpy, factsC, wpb, cst, wpk, wpl, forall_const, implies_true, false_implies, Int.reduceLE, Int.reduceLT, Nat.reduceLeDiff, UInt8.reduceToNat, ↓reduceIte, Nat.reduceEqDiff, Nat.reduceAdd, reduceCtorEq, Int.reduceToNat, clsL, clsS, clsC, Tryd.f8, hm, hl1, hl2, b1, hf.1, hf.2, hk, hki, Int.reduceEq, c7, c5, hla2, hg5]
      refine append_lst (n0 := h3.nx) (sv := v5) (xv := .slice h5.nx 0 1 1) (new := [.int .i64 5, .str [58, 61], .int .i64 0]) ?_ ?_ ap23 ⟨.slice 36, by kernel_rfl, rfl⟩ (hl5.ext ((Ext.refl _).push _)) (.inr ⟨h5.nx, 0, 1, 1, rfl, Nat.lt_succ_self _, by rw [push_eq rfl]; exact rdC_all rfl, rfl⟩) rfl ?_ (by decide) (fun k hk => by rw [fresh_def]; exact .inl (by have := hx3.1; have := hx2.1; omega)) (by show h3.nx ≤ h5.nx + 1; omega) ?_
      · simp +contextual (disch := first | (simp only [factsC, clsL, clsS, clsC, isPtrD]; done) | omega | (simp only [push_nx, put_nx, del_nx]; omega) | (refine Nat.le_antisymm ?_ ?_ <;> simp only [push_nx, put_nx, del_nx] <;> omega) | fail) only [wpy, factsC, wpb, cst, wpk, wpl, forall_const, implies_true, false_implies, Int.reduceLE, Int.reduceLT, Nat.reduceLeDiff, UInt8.reduceToNat, ↓reduceIte, Nat.reduceEqDiff, Nat.reduceAdd, reduceCtorEq, Int.reduceToNat, clsL, clsS, clsC]
      · simp +contextual (disch := first | (simp only [factsC, clsL, clsS, clsC, isPtrD]; done) | omega | (simp only [push_nx, put_nx, del_nx]; omega) | (refine Nat.le_antisymm ?_ ?_ <;> simp only [push_nx, put_nx, del_nx] <;> omega) | fail) only [wpy, factsC, wpb, cst, wpk, wpl, forall_const, implies_true, false_implies, Int.reduceLE, Int.reduceLT, Nat.reduceLeDiff, UInt8.reduceToNat, ↓reduceIte, Nat.reduceEqDiff, Nat.reduceAdd, reduceCtorEq, Int.reduceToNat, clsL, clsS, clsC]
      · rw [wcells_takeN _ _ hkl, List.nil_append, wcells_len, List.length_take]; simp only [List.length_cons, List.length_nil]; omega
      intro v6 h6 L6 hl6 hn6 hk6 hf6 hL6
      have hn6 : h5.nx + 1 ≤ h6.nx := hn6
      have hx6 : Ext h3 h6 := ⟨by omega, fun k hk => by rw [hf6 k hk, push_ne (by omega), hx5.2 k hk]⟩
      simp +contextual (disch := first | (simp only [factsC, clsL, clsS, clsC, isPtrD]; done) | omega | (simp only [push_nx, put_nx, del_nx]; omega) | (refine Nat.le_antisymm ?_ ?_ <;> simp only [push_nx, put_nx, del_nx] <;> omega) | fail) only [wpy, factsC, wpb, cst, wpk, wpl, forall_const, implies_true, false_implies, Int.reduceLE, Int.reduceLT, Nat.reduceLeDiff, UInt8.reduceToNat, ↓reduceIte, Nat.reduceEqDiff, Nat.reduceAdd, reduceCtorEq, Int.reduceToNat, clsL, clsS, clsC, Tryd.f8, hm, hl1, hl2, b1, hf.1, hf.2, hk, hki, Int.reduceEq, c7, c5, hla2]
      refine slice_drop (sz := 3) (len := (wordsOf s).length) (k := kp) (lv := l) (by kernel_rfl) (by kernel_rfl) (by decide) ?_ ?_ ((hl'.ext hx3).ext hx6) (wcells_len _) hkl ?_
      · simp +contextual (disch := first | (simp only [factsC, clsL, clsS, clsC, isPtrD]; done) | omega | (simp only [push_nx, put_nx, del_nx]; omega) | (refine Nat.le_antisymm ?_ ?_ <;> simp only [push_nx, put_nx, del_nx] <;> omega) | fail) only [wpy, factsC, wpb, cst, wpk, wpl, forall_const, implies_true, false_implies, Int.reduceLE, Int.reduceLT, Nat.reduceLeDiff, UInt8.reduceToNat, ↓reduceIte, Nat.reduceEqDiff, Nat.reduceAdd, reduceCtorEq, Int.reduceToNat, clsL, clsS, clsC]
      · simp +contextual (disch := first | (simp only [factsC, clsL, clsS, clsC, isPtrD]; done) | omega | (simp only [push_nx, put_nx, del_nx]; omega) | (refine Nat.le_antisymm ?_ ?_ <;> simp only [push_nx, put_nx, del_nx] <;> omega) | fail) only [wpy, factsC, wpb, cst, wpk, wpl, forall_const, implies_true, false_implies, Int.reduceLE, Int.reduceLT, Nat.reduceLeDiff, UInt8.reduceToNat, ↓reduceIte, Nat.reduceEqDiff, Nat.reduceAdd, reduceCtorEq, Int.reduceToNat, clsL, clsS, clsC]
      intro v7 L7 hs7 hL7 hv7
      simp +contextual (disch := first | (simp only [factsC, clsL, clsS, clsC, isPtrD]; done) | omega | (simp only [push_nx, put_nx, del_nx]; omega) | (refine Nat.le_antisymm ?_ ?_ <;> simp only [push_nx, put_nx, del_nx] <;> omega) | fail) only [wpy, factsC, wpb, cst, wpk, wpl, forall_const, implies_true, false_implies, Int.reduceLE, Int.reduceLT, Nat.reduceLeDiff, UInt8.reduceToNat, ↓reduceIte, Nat.reduceEqDiff, Nat.reduceAdd, reduceCtorEq, Int.reduceToNat, clsL, clsS, clsC, Tryd.f8, hm, hl1, hl2, b1, hf.1, hf.2, hk, hki, Int.reduceEq, c7, c5, hla2]
      refine append_lst (n0 := h3.nx) (sv := v6) (xv := v7) ?_ ?_ ap23 ⟨.slice 36, by kernel_rfl, rfl⟩ hl6 hs7 ?_ ?_ (by decide) (fun k hk => by rw [fresh_def]; exact .inl (by have := hx3.1; have := hx2.1; omega)) hx6.1 ?_
      · simp +contextual (disch := first | (simp only [factsC, clsL, clsS, clsC, isPtrD]; done) | omega | (simp only [push_nx, put_nx, del_nx]; omega) | (refine Nat.le_antisymm ?_ ?_ <;> simp only [push_nx, put_nx, del_nx] <;> omega) | fail) only [wpy, factsC, wpb, cst, wpk, wpl, forall_const, implies_true, false_implies, Int.reduceLE, Int.reduceLT, Nat.reduceLeDiff, UInt8.reduceToNat, ↓reduceIte, Nat.reduceEqDiff, Nat.reduceAdd, reduceCtorEq, Int.reduceToNat, clsL, clsS, clsC]
      · simp +contextual (disch := first | (simp only [factsC, clsL, clsS, clsC, isPtrD]; done) | omega | (simp only [push_nx, put_nx, del_nx]; omega) | (refine Nat.le_antisymm ?_ ?_ <;> simp only [push_nx, put_nx, del_nx] <;> omega) | fail) only [wpy, factsC, wpb, cst, wpk, wpl, forall_const, implies_true, false_implies, Int.reduceLE, Int.reduceLT, Nat.reduceLeDiff, UInt8.reduceToNat, ↓reduceIte, Nat.reduceEqDiff, Nat.reduceAdd, reduceCtorEq, Int.reduceToNat, clsL, clsS, clsC]
      · rw [wcells_drop]; exact wcells_isCell _
      · rw [wcells_drop, wcells_takeN _ _ hkl, List.length_append, List.nil_append, wcells_len, wcells_len, List.length_take, List.length_drop]; simp only [List.length_cons, List.length_nil]; omega
      intro v8 h8 L8 hl8 hn8 hk8 hf8 hL8
      simp +contextual (disch := first | (simp only [factsC, clsL, clsS, clsC, isPtrD]; done) | omega | (simp only [push_nx, put_nx, del_nx]; omega) | (refine Nat.le_antisymm ?_ ?_ <;> simp only [push_nx, put_nx, del_nx] <;> omega) | fail) only [wpy, factsC, wpb, cst, wpk, wpl, forall_const, implies_true, false_implies, Int.reduceLE, Int.reduceLT, Nat.reduceLeDiff, UInt8.reduceToNat, ↓reduceIte, Nat.reduceEqDiff, Nat.reduceAdd, reduceCtorEq, Int.reduceToNat, clsL, clsS, clsC, Tryd.f8, hm, hl1, hl2, b1, hf.1, hf.2, hk, hki, Int.reduceEq, c7, c5, hla2]
      have hlb : ∀ k o n m, l = .slice k o n m → k < h2.nx := fun k o n m q => (hl'.blk q).2
      have hv4b : ∀ k o n m, v4 = .slice k o n m → k < h2.nx := fun k o n m q => by obtain ⟨_, _, _, q⟩ := hv4 _ _ _ _ q; exact hlb _ _ _ _ q
      have hv7b : ∀ k o n m, v7 = .slice k o n m → k < h2.nx := fun k o n m q => by obtain ⟨_, _, _, q⟩ := hv7 _ _ _ _ q; exact hlb _ _ _ _ q
      have bL4 : ∀ x ∈ L4, blkOf x < h2.nx ∧ x.isW = false := fun x hx => by obtain ⟨⟨_, _, _, q⟩, q2⟩ := hL4 x hx; exact ⟨hlb _ _ _ _ q, q2⟩
      have bL7 : ∀ x ∈ L7, blkOf x < h2.nx ∧ x.isW = false := fun x hx => by obtain ⟨⟨_, _, _, q⟩, q2⟩ := hL7 x hx; exact ⟨hlb _ _ _ _ q, q2⟩
      have bL5 : ∀ x ∈ L5, (blkOf x < h2.nx ∧ x.isW = false) ∨ (h3.nx ≤ blkOf x ∧ blkOf x < h5.nx) := fun x hx => by
        rcases hL5 x hx with ⟨⟨_, _, _, q⟩, q2⟩ | ⟨q1, q2⟩ | ⟨_, _, _, q⟩
        · exact .inl ⟨hv4b _ _ _ _ q, q2⟩
        · exact .inr ⟨by have : h3.nx + 1 ≤ blkOf x := q1; omega, q2⟩
        · injection q with e1 e2 e3 e4; exact .inr ⟨by omega, by omega⟩
      have bL6 : ∀ x ∈ L6, h3.nx ≤ blkOf x ∧ blkOf x < h6.nx := fun x hx => by
        rcases hL6 x hx with ⟨⟨_, _, _, q⟩, q2⟩ | ⟨q1, q2⟩ | ⟨_, _, _, q⟩
        · injection q with e1 e2 e3 e4; exact ⟨by omega, by omega⟩
        · exact ⟨by have : h5.nx + 1 ≤ blkOf x := q1; omega, q2⟩
        · rcases hl5 with ha | ⟨_, b, g1, g2, g3, _⟩
          · have := ha.blk q; exact ⟨this.1, by omega⟩
          · rw [g3] at q; injection q with e1 e2 e3 e4; exact ⟨by omega, by omega⟩
      refine ⟨fun pr hpr => ?_, ?_⟩
      · simp only [List.mem_cons, List.not_mem_nil, or_false] at hpr
        rcases hpr with rfl | rfl | rfl | rfl | rfl | rfl | rfl | rfl | rfl | rfl
        · exact pair_one rfl rfl (apart_blk fun x hx y hy => by rw [List.mem_singleton.1 hx]; have := (bL4 y hy).1; show h3.nx ≠ blkOf y; omega)
        · exact pair_one rfl rfl (apart_blk fun x hx y hy => by rw [List.mem_singleton.1 hx, List.mem_singleton.1 hy]; show h3.nx ≠ h2.nx + 1; omega)
        · exact pair_one rfl rfl (apart_blk fun x hx y hy => by rw [List.mem_singleton.1 hx, List.mem_singleton.1 hy]; show h3.nx ≠ h5.nx; omega)
        · exact pair_one rfl rfl (apart_blk fun x hx y hy => by rw [List.mem_singleton.1 hx]; have := (bL7 y hy).1; show h3.nx ≠ blkOf y; omega)
        · exact pair_one rfl rfl (apart_blk fun x hx y hy => by rw [List.mem_singleton.1 hy]; have := (bL4 x hx).1; show blkOf x ≠ h5.nx; omega)
        · exact pair_one rfl rfl (apart_blk fun x hx y hy => by rw [List.mem_singleton.1 hy]; have := bL5 x hx; show blkOf x ≠ h2.nx + 1; omega)
        · exact pair_one rfl rfl (apart_blk fun x hx y hy => by rw [List.mem_singleton.1 hy]; have := bL5 x hx; show blkOf x ≠ h5.nx; omega)
        · exact pair_one rfl rfl (apart_w fun x hx y hy hw => by
            have h7 := bL7 y hy
            rw [h7.2] at hw
            rcases bL5 x hx with q | q
            · rw [q.2] at hw; rcases hw with hw | hw <;> cases hw
            · omega)
        · exact pair_one rfl rfl (apart_blk fun x hx y hy => by rw [List.mem_singleton.1 hx]; have := (bL7 y hy).1; show h5.nx ≠ blkOf y; omega)
        · exact pair_one rfl rfl (apart_blk fun x hx y hy => by have := (bL7 y hy).1; have := (bL6 x hx).1; omega)
      have hwc : (([] ++ List.take (kp * 3) (wcells (wordsOf s))) ++ [V.int IntKind.i64 5, V.str [58, 61], V.int IntKind.i64 0]) ++ List.drop (kp * 3) (wcells (wordsOf s)) = wcells (putIn (wordsOf s) kp ⟨5, [58, 61], 0⟩) := by
        rw [wcells_takeN _ _ hkl, wcells_drop, List.nil_append, putIn, wcells_app, wcells_app]
        rfl
      rw [hwc] at hl8
      obtain ⟨p1, p2, p3⟩ := putIn_at (w := ⟨5, [58, 61], 0⟩) hkl
      have hacc : Wx.Acc h3.nx h8 v8 (wcells (putIn (wordsOf s) kp ⟨5, [58, 61], 0⟩)) 36 3 := by
        rcases hl8 with ha | ⟨q, _⟩
        · exact ha
        · have := congrArg List.length q
          rw [wcells_len, p3] at this
          simp at this
      have hodd : oddsP (putIn (wordsOf s) kp ⟨5, [58, 61], 0⟩) := ⟨kp, p1, by unfold oddW; rw [p2]; exact .inr (.inl ⟨rfl, rfl⟩)⟩
      have hX8 : Ext h h8 := by
        refine hx2.trans (hx3.trans ⟨by have : h6.nx ≤ h8.nx := hn8; omega, fun k hk => by rw [hf8 k hk, hx6.2 k hk]⟩)
      refine callF_pure (one_odd_spec hS v8 _ h8 (.of_acc hacc) (by rw [p3]; omega) hodd) ?_
      rintro v h9 hx9 rfl
      simp +contextual (disch := first | (simp only [factsC, clsL, clsS, clsC, isPtrD]; done) | omega | (simp only [push_nx, put_nx, del_nx]; omega) | (refine Nat.le_antisymm ?_ ?_ <;> simp only [push_nx, put_nx, del_nx] <;> omega) | fail) only [wpy, factsC, wpb, cst, wpk, wpl, forall_const, implies_true, false_implies, Int.reduceLE, Int.reduceLT, Nat.reduceLeDiff, UInt8.reduceToNat, ↓reduceIte, Nat.reduceEqDiff, Nat.reduceAdd, reduceCtorEq, Int.reduceToNat, clsL, clsS, clsC, Tryd.f8, hm, hl1, hl2, b1, hf.1, hf.2, hk, hki, Int.reduceEq, c7, c5, hla2]
      refine callF_pure (kind_spec hS 13 h9) ?_
      rintro v h10 hx10 rfl
      simp +contextual (disch := first | (simp only [factsC, clsL, clsS, clsC, isPtrD]; done) | omega | (simp only [push_nx, put_nx, del_nx]; omega) | (refine Nat.le_antisymm ?_ ?_ <;> simp only [push_nx, put_nx, del_nx] <;> omega) | fail) only [wpy, factsC, wpb, cst, wpk, wpl, forall_const, implies_true, false_implies, Int.reduceLE, Int.reduceLT, Nat.reduceLeDiff, UInt8.reduceToNat, ↓reduceIte, Nat.reduceEqDiff, Nat.reduceAdd, reduceCtorEq, Int.reduceToNat, clsL, clsS, clsC, Tryd.f8, hm, hl1, hl2, b1, hf.1, hf.2, hk, hki, Int.reduceEq, c7, c5, hla2, cls_eql]
      exact (hX8.trans hx9).trans hx10
  · by_cases c5 : q.tmod 5 = 0
    · simp +contextual (disch := first | (simp only [factsC, clsL, clsS, clsC, isPtrD]; done) | omega | (simp only [push_nx, put_nx, del_nx]; omega) | (refine Nat.le_antisymm ?_ ?_ <;> simp only [push_nx, put_nx, del_nx] <;> omega) | fail) only [wpy, factsC, wpb, cst, wpk, wpl, forall_const, implies_true, false_implies, Int.reduceLE, Int.reduceLT, Nat.reduceLeDiff, UInt8.reduceToNat, ↓reduceIte, Nat.reduceEqDiff, Nat.reduceAdd, reduceCtorEq, Int.reduceToNat, clsL, clsS, clsC, Tryd.f8, hm, hl1, hl2, b1, hf.1, hf.2, hk, hki, Int.reduceEq, c7, c5, hla2]
      refine ⟨.inr (by omega), .inr (by omega), callF_exact (hps _) ?_⟩
      generalize hH : H.put _ (h2.nx + 1) _ = h3
      have hn3 : h3.nx = h2.nx + 2 := by rw [← hH]; rfl
      have hg3 : h3.get (h2.nx + 1) = some (.cells [.int .i64 9, .str [47, 42, 33, 49, 42, 47], .int .i64 0] 36 false) := by rw [← hH]; exact put_eq rfl
      have hx3 : Ext h2 h3 := by
        rw [← hH]
        repeat' (first | exact Ext.refl _ | refine Ext.push ?_ _ | refine Ext.put ?_ (Nat.le_succ _) _)
      clear hH
      simp +contextual (disch := first | (simp only [factsC, clsL, clsS, clsC, isPtrD]; done) | omega | (simp only [push_nx, put_nx, del_nx]; omega) | (refine Nat.le_antisymm ?_ ?_ <;> simp only [push_nx, put_nx, del_nx] <;> omega) | fail) only [wpy, factsC, wpb, cst, wpk, wpl, forall_const, implies_true, false_implies, Int.reduceLE, Int.reduceLT, Nat.reduceLeDiff, UInt8.reduceToNat, ↓reduceIte, Nat.reduceEqDiff, Nat.reduceAdd, reduceCtorEq, Int.reduceToNat, clsL, clsS, clsC, Tryd.f8, hm, hl1, hl2, b1, hf.1, hf.2, hk, hki, Int.reduceEq, c7, c5, hla2, hg3]
      refine draw_by [(0, 3), (0, 5), (0, 6), (0, 10), (3, 6), (4, 5), (4, 6), (4, 10), (6, 10), (7, 10)] (by kernel_rfl) ?_
      simp +contextual (disch := first | (simp only [factsC, clsL, clsS, clsC, isPtrD]; done) | omega | (simp only [push_nx, put_nx, del_nx]; omega) | (refine Nat.le_antisymm ?_ ?_ <;> simp only [push_nx, put_nx, del_nx] <;> omega) | fail) only [wpy, factsC, wpb, cst, wpk, wpl, forall_const, implies_true, false_implies, Int.reduceLE, Int.reduceLT, Nat.reduceLeDiff, UInt8.reduceToNat, ↓reduceIte, Nat.reduceEqDiff, Nat.reduceAdd, reduceCtorEq, Int.reduceToNat, clsL, clsS, clsC, Tryd.f8, hm, hl1, hl2, b1, hf.1, hf.2, hk, hki, Int.reduceEq, c7, c5, hla2, hg3]
      have hxp : Ext h3 (h3.push (.cells [] 36 false)) := (Ext.refl _).push _
      refine slice_take (sz := 3) (len := (wordsOf s).length) (k := kp) (lv := l) (by kernel_rfl) (by kernel_rfl) (by decide) ?_ ?_ ((hl'.ext hx3).ext hxp) (wcells_len _) hkl ?_
      · simp +contextual (disch := first | (simp only [factsC, clsL, clsS, clsC, isPtrD]; done) | omega | (simp only [push_nx, put_nx, del_nx]; omega) | (refine Nat.le_antisymm ?_ ?_ <;> simp only [push_nx, put_nx, del_nx] <;> omega) | fail) only [wpy, factsC, wpb, cst, wpk, wpl, forall_const, implies_true, false_implies, Int.reduceLE, Int.reduceLT, Nat.reduceLeDiff, UInt8.reduceToNat, ↓reduceIte, Nat.reduceEqDiff, Nat.reduceAdd, reduceCtorEq, Int.reduceToNat, clsL, clsS, clsC]
      · simp +contextual (disch := first | (simp only [factsC, clsL, clsS, clsC, isPtrD]; done) | omega | (simp only [push_nx, put_nx, del_nx]; omega) | (refine Nat.le_antisymm ?_ ?_ <;> simp only [push_nx, put_nx, del_nx] <;> omega) | fail) only [wpy, factsC, wpb, cst, wpk, wpl, forall_const, implies_true, false_implies, Int.reduceLE, Int.reduceLT, Nat.reduceLeDiff, UInt8.reduceToNat, ↓reduceIte, Nat.reduceEqDiff, Nat.reduceAdd, reduceCtorEq, Int.reduceToNat, clsL, clsS, clsC]
      intro v4 L4 hs4 hL4 hv4
      simp +contextual (disch := first | (simp only [factsC, clsL, clsS, clsC, isPtrD]; done) | omega | (simp only [push_nx, put_nx, del_nx]; omega) | (refine Nat.le_antisymm ?_ ?_ <;> simp only [push_nx, put_nx, del_nx] <;> omega) | fail) only [wpy, factsC, wpb, cst, wpk, wpl, forall_const, implies_true, false_implies, Int.reduceLE, Int.reduceLT, Nat.reduceLeDiff, UInt8.reduceToNat, ↓reduceIte, Nat.reduceEqDiff, Nat.reduceAdd, reduceCtorEq, Int.reduceToNat, clsL, clsS, clsC, Tryd.f8, hm, hl1, hl2, b1, hf.1, hf.2, hk, hki, Int.reduceEq, c7, c5, hla2, hg3]
      refine append_lst (n0 := h3.nx) (cells := []) (sv := .slice h3.nx 0 0 0) (xv := v4) ?_ ?_ ap23 ⟨.slice 36, by kernel_rfl, rfl⟩ (.inr ⟨rfl, h3.nx, Nat.le_refl _, Nat.lt_succ_self _, rfl, push_eq rfl⟩) hs4 ?_ ?_ (by decide) (fun k hk => by rw [fresh_def]; exact .inl (by have := hx3.1; have := hx2.1; omega)) (Nat.le_succ _) ?_
      · simp +contextual (disch := first | (simp only [factsC, clsL, clsS, clsC, isPtrD]; done) | omega | (simp only [push_nx, put_nx, del_nx]; omega) | (refine Nat.le_antisymm ?_ ?_ <;> simp only [push_nx, put_nx, del_nx] <;> omega) | fail) only [wpy, factsC, wpb, cst, wpk, wpl, forall_const, implies_true, false_implies, Int.reduceLE, Int.reduceLT, Nat.reduceLeDiff, UInt8.reduceToNat, ↓reduceIte, Nat.reduceEqDiff, Nat.reduceAdd, reduceCtorEq, Int.reduceToNat, clsL, clsS, clsC]
      · simp +contextual (disch := first | (simp only [factsC, clsL, clsS, clsC, isPtrD]; done) | omega | (simp only [push_nx, put_nx, del_nx]; omega) | (refine Nat.le_antisymm ?_ ?_ <;> simp only [push_nx, put_nx, del_nx] <;> omega) | fail) only [wpy, factsC, wpb, cst, wpk, wpl, forall_const, implies_true, false_implies, Int.reduceLE, Int.reduceLT, Nat.reduceLeDiff, UInt8.reduceToNat, ↓reduceIte, Nat.reduceEqDiff, Nat.reduceAdd, reduceCtorEq, Int.reduceToNat, clsL, clsS, clsC]
      · rw [wcells_takeN _ _ hkl]; exact wcells_isCell _
      · rw [wcells_takeN _ _ hkl, wcells_len, List.length_take]; simp only [List.length_nil]; omega
      intro v5 h5 L5 hl5 hn5 hk5 hf5 hL5
      have hn5 : h3.nx + 1 ≤ h5.nx := hn5
      have hg5 : h5.get (h2.nx + 1) = some (.cells [.int .i64 9, .str [47, 42, 33, 49, 42, 47], .int .i64 0] 36 false) := by rw [hf5 _ (by omega), push_ne (by omega)]; exact hg3
      have hx5 : Ext h3 h5 := ⟨by omega, fun k hk => by rw [hf5 k hk, push_ne (by omega)]⟩
      simp +contextual (disch := first | (simp only [factsC, clsL, clsS, clsC, isPtrD]; done) | omega | (simp only [push_nx, put_nx, del_nx]; omega) | (refine Nat.le_antisymm ?_ ?_ <;> simp only [push_nx, put_nx, del_nx] <;> omega) | fail) only [wpy, factsC, wpb, cst, wpk, wpl, forall_const, implies_true, false_implies, Int.reduceLE, Int.reduceLT, Nat.reduceLeDiff, UInt8.reduceToNat, ↓reduceIte, Nat.reduceEqDiff, Nat.reduceAdd, reduceCtorEq, Int.reduceToNat, clsL, clsS, clsC, Tryd.f8, hm, hl1, hl2, b1, hf.1, hf.2, hk, hki, Int.reduceEq, c7, c5, hla2, hg5]
      refine append_lst (n0 := h3.nx) (sv := v5) (xv := .slice h5.nx 0 1 1) (new := [.int .i64 9, .str [47, 42, 33, 49, 42, 47], .int .i64 0]) ?_ ?_ ap23 ⟨.slice 36, by kernel_rfl, rfl⟩ (hl5.ext ((Ext.refl _).push _)) (.inr ⟨h5.nx, 0, 1, 1, rfl, Nat.lt_succ_self _, by rw [push_eq rfl]; exact rdC_all rfl, rfl⟩) rfl ?_ (by decide) (fun k hk => by rw [fresh_def]; exact .inl (by have := hx3.1; have := hx2.1; omega)) (by show h3.nx ≤ h5.nx + 1; omega) ?_
      · simp +contextual (disch := first | (simp only [factsC, clsL, clsS, clsC, isPtrD]; done) | omega | (simp only [push_nx, put_nx, del_nx]; omega) | (refine Nat.le_antisymm ?_ ?_ <;> simp only [push_nx, put_nx, del_nx] <;> omega) | fail) only [wpy, factsC, wpb, cst, wpk, wpl, forall_const, implies_true, false_implies, Int.reduceLE, Int.reduceLT, Nat.reduceLeDiff, UInt8.reduceToNat, ↓reduceIte, Nat.reduceEqDiff, Nat.reduceAdd, reduceCtorEq, Int.reduceToNat, clsL, clsS, clsC]
      · simp +contextual (disch := first | (simp only [factsC, clsL, clsS, clsC, isPtrD]; done) | omega | (simp only [push_nx, put_nx, del_nx]; omega) | (refine Nat.le_antisymm ?_ ?_ <;> simp only [push_nx, put_nx, del_nx] <;> omega) | fail) only [wpy, factsC, wpb, cst, wpk, wpl, forall_const, implies_true, false_implies, Int.reduceLE, Int.reduceLT, Nat.reduceLeDiff, UInt8.reduceToNat, ↓reduceIte, Nat.reduceEqDiff, Nat.reduceAdd, reduceCtorEq, Int.reduceToNat, clsL, clsS, clsC]
      · rw [wcells_takeN _ _ hkl, List.nil_append, wcells_len, List.length_take]; simp only [List.length_cons, List.length_nil]; omega
      intro v6 h6 L6 hl6 hn6 hk6 hf6 hL6
      have hn6 : h5.nx + 1 ≤ h6.nx := hn6
      have hx6 : Ext h3 h6 := ⟨by omega, fun k hk => by rw [hf6 k hk, push_ne (by omega), hx5.2 k hk]⟩
      simp +contextual (disch := first | (simp only [factsC, clsL, clsS, clsC, isPtrD]; done) | omega | (simp only [push_nx, put_nx, del_nx]; omega) | (refine Nat.le_antisymm ?_ ?_ <;> simp only [push_nx, put_nx, del_nx] <;> omega) | fail) only [wpy, factsC, wpb, cst, wpk, wpl, forall_const, implies_true, false_implies, Int.reduceLE, Int.reduceLT, Nat.reduceLeDiff, UInt8.reduceToNat, ↓reduceIte, Nat.reduceEqDiff, Nat.reduceAdd, reduceCtorEq, Int.reduceToNat, clsL, clsS, clsC, Tryd.f8, hm, hl1, hl2, b1, hf.1, hf.2, hk, hki, Int.reduceEq, c7, c5, hla2]
      refine slice_drop (sz := 3) (len := (wordsOf s).length) (k := kp) (lv := l) (by kernel_rfl) (by kernel_rfl) (by decide) ?_ ?_ ((hl'.ext hx3).ext hx6) (wcells_len _) hkl ?_
      · simp +contextual (disch := first | (simp only [factsC, clsL, clsS, clsC, isPtrD]; done) | omega | (simp only [push_nx, put_nx, del_nx]; omega) | (refine Nat.le_antisymm ?_ ?_ <;> simp only [push_nx, put_nx, del_nx] <;> omega) | fail) only [wpy, factsC, wpb, cst, wpk, wpl, forall_const, implies_true, false_implies, Int.reduceLE, Int.reduceLT, Nat.reduceLeDiff, UInt8.reduceToNat, ↓reduceIte, Nat.reduceEqDiff, Nat.reduceAdd, reduceCtorEq, Int.reduceToNat, clsL, clsS, clsC]
      · simp +contextual (disch := first | (simp only [factsC, clsL, clsS, clsC, isPtrD]; done) | omega | (simp only [push_nx, put_nx, del_nx]; omega) | (refine Nat.le_antisymm ?_ ?_ <;> simp only [push_nx, put_nx, del_nx] <;> omega) | fail) only [wpy, factsC, wpb, cst, wpk, wpl, forall_const, implies_true, false_implies, Int.reduceLE, Int.reduceLT, Nat.reduceLeDiff, UInt8.reduceToNat, ↓reduceIte, Nat.reduceEqDiff, Nat.reduceAdd, reduceCtorEq, Int.reduceToNat, clsL, clsS, clsC]
      intro v7 L7 hs7 hL7 hv7
      simp +contextual (disch := first | (simp only [factsC, clsL, clsS, clsC, isPtrD]; done) | omega | (simp only [push_nx, put_nx, del_nx]; omega) | (refine Nat.le_antisymm ?_ ?_ <;> simp only [push_nx, put_nx, del_nx] <;> omega) | fail) only [wpy, factsC, wpb, cst, wpk, wpl, forall_const, implies_true, false_implies, Int.reduceLE, Int.reduceLT, Nat.reduceLeDiff, UInt8.reduceToNat, ↓reduceIte, Nat.reduceEqDiff, Nat.reduceAdd, reduceCtorEq, Int.reduceToNat, clsL, clsS, clsC, Tryd.f8, hm, hl1, hl2, b1, hf.1, hf.2, hk, hki, Int.reduceEq, c7, c5, hla2]
      refine append_lst (n0 := h3.nx) (sv := v6) (xv := v7) ?_ ?_ ap23 ⟨.slice 36, by kernel_rfl, rfl⟩ hl6 hs7 ?_ ?_ (by decide) (fun k hk => by rw [fresh_def]; exact .inl (by have := hx3.1; have := hx2.1; omega)) hx6.1 ?_
      · simp +contextual (disch := first | (simp only [factsC, clsL, clsS, clsC, isPtrD]; done) | omega | (simp only [push_nx, put_nx, del_nx]; omega) | (refine Nat.le_antisymm ?_ ?_ <;> simp only [push_nx, put_nx, del_nx] <;> omega) | fail) only [wpy, factsC, wpb, cst, wpk, wpl, forall_const, implies_true, false_implies, Int.reduceLE, Int.reduceLT, Nat.reduceLeDiff, UInt8.reduceToNat, ↓reduceIte, Nat.reduceEqDiff, Nat.reduceAdd, reduceCtorEq, Int.reduceToNat, clsL, clsS, clsC]
      · simp +contextual (disch := first | (simp only [factsC, clsL, clsS, clsC, isPtrD]; done) | omega | (simp only [push_nx, put_nx, del_nx]; omega) | (refine Nat.le_antisymm ?_ ?_ <;> simp only [push_nx, put_nx, del_nx] <;> omega) | fail) only [wpy, factsC, wpb, cst, wpk, wpl, forall_const, implies_true, false_implies, Int.reduceLE, Int.reduceLT, Nat.reduceLeDiff, UInt8.reduceToNat, ↓reduceIte, Nat.reduceEqDiff, Nat.reduceAdd, reduceCtorEq, Int.reduceToNat, clsL, clsS, clsC]
      · rw [wcells_drop]; exact wcells_isCell _
      · rw [wcells_drop, wcells_takeN _ _ hkl, List.length_append, List.nil_append, wcells_len, wcells_len, List.length_take, List.length_drop]; simp only [List.length_cons, List.length_nil]; omega
      intro v8 h8 L8 hl8 hn8 hk8 hf8 hL8
      simp +contextual (disch := first | (simp only [factsC, clsL, clsS, clsC, isPtrD]; done) | omega | (simp only [push_nx, put_nx, del_nx]; omega) | (refine Nat.le_antisymm ?_ ?_ <;> simp only [push_nx, put_nx, del_nx] <;> omega) | fail) only [wpy, factsC, wpb, cst, wpk, wpl, forall_const, implies_true, false_implies, Int.reduceLE, Int.reduceLT, Nat.reduceLeDiff, UInt8.reduceToNat, ↓reduceIte, Nat.reduceEqDiff, Nat.reduceAdd, reduceCtorEq, Int.reduceToNat, clsL, clsS, clsC, Tryd.f8, hm, hl1, hl2, b1, hf.1, hf.2, hk, hki, Int.reduceEq, c7, c5, hla2]
      have hlb : ∀ k o n m, l = .slice k o n m → k < h2.nx := fun k o n m q => (hl'.blk q).2
      have hv4b : ∀ k o n m, v4 = .slice k o n m → k < h2.nx := fun k o n m q => by obtain ⟨_, _, _, q⟩ := hv4 _ _ _ _ q; exact hlb _ _ _ _ q
      have hv7b : ∀ k o n m, v7 = .slice k o n m → k < h2.nx := fun k o n m q => by obtain ⟨_, _, _, q⟩ := hv7 _ _ _ _ q; exact hlb _ _ _ _ q
      have bL4 : ∀ x ∈ L4, blkOf x < h2.nx ∧ x.isW = false := fun x hx => by obtain ⟨⟨_, _, _, q⟩, q2⟩ := hL4 x hx; exact ⟨hlb _ _ _ _ q, q2⟩
      have bL7 : ∀ x ∈ L7, blkOf x < h2.nx ∧ x.isW = false := fun x hx => by obtain ⟨⟨_, _, _, q⟩, q2⟩ := hL7 x hx; exact ⟨hlb _ _ _ _ q, q2⟩
      have bL5 : ∀ x ∈ L5, (blkOf x < h2.nx ∧ x.isW = false) ∨ (h3.nx ≤ blkOf x ∧ blkOf x < h5.nx) := fun x hx => by
        rcases hL5 x hx with ⟨⟨_, _, _, q⟩, q2⟩ | ⟨q1, q2⟩ | ⟨_, _, _, q⟩
        · exact .inl ⟨hv4b _ _ _ _ q, q2⟩
        · exact .inr ⟨by have : h3.nx + 1 ≤ blkOf x := q1; omega, q2⟩
        · injection q with e1 e2 e3 e4; exact .inr ⟨by omega, by omega⟩
      have bL6 : ∀ x ∈ L6, h3.nx ≤ blkOf x ∧ blkOf x < h6.nx := fun x hx => by
        rcases hL6 x hx with ⟨⟨_, _, _, q⟩, q2⟩ | ⟨q1, q2⟩ | ⟨_, _, _, q⟩
        · injection q with e1 e2 e3 e4; exact ⟨by omega, by omega⟩
        · exact ⟨by have : h5.nx + 1 ≤ blkOf x := q1; omega, q2⟩
        · rcases hl5 with ha | ⟨_, b, g1, g2, g3, _⟩
          · have := ha.blk q; exact ⟨this.1, by omega⟩
          · rw [g3] at q; injection q with e1 e2 e3 e4; exact ⟨by omega, by omega⟩
      refine ⟨fun pr hpr => ?_, ?_⟩
      · simp only [List.mem_cons, List.not_mem_nil, or_false] at hpr
        rcases hpr with rfl | rfl | rfl | rfl | rfl | rfl | rfl | rfl | rfl | rfl
        · exact pair_one rfl rfl (apart_blk fun x hx y hy => by rw [List.mem_singleton.1 hx]; have := (bL4 y hy).1; show h3.nx ≠ blkOf y; omega)
        · exact pair_one rfl rfl (apart_blk fun x hx y hy => by rw [List.mem_singleton.1 hx, List.mem_singleton.1 hy]; show h3.nx ≠ h2.nx + 1; omega)
        · exact pair_one rfl rfl (apart_blk fun x hx y hy => by rw [List.mem_singleton.1 hx, List.mem_singleton.1 hy]; show h3.nx ≠ h5.nx; omega)
        · exact pair_one rfl rfl (apart_blk fun x hx y hy => by rw [List.mem_singleton.1 hx]; have := (bL7 y hy).1; show h3.nx ≠ blkOf y; omega)
        · exact pair_one rfl rfl (apart_blk fun x hx y hy => by rw [List.mem_singleton.1 hy]; have := (bL4 x hx).1; show blkOf x ≠ h5.nx; omega)
        · exact pair_one rfl rfl (apart_blk fun x hx y hy => by rw [List.mem_singleton.1 hy]; have := bL5 x hx; show blkOf x ≠ h2.nx + 1; omega)
        · exact pair_one rfl rfl (apart_blk fun x hx y hy => by rw [List.mem_singleton.1 hy]; have := bL5 x hx; show blkOf x ≠ h5.nx; omega)
        · exact pair_one rfl rfl (apart_w fun x hx y hy hw => by
            have h7 := bL7 y hy
            rw [h7.2] at hw
            rcases bL5 x hx with q | q
            · rw [q.2] at hw; rcases hw with hw | hw <;> cases hw
            · omega)
        · exact pair_one rfl rfl (apart_blk fun x hx y hy => by rw [List.mem_singleton.1 hx]; have := (bL7 y hy).1; show h5.nx ≠ blkOf y; omega)
        · exact pair_one rfl rfl (apart_blk fun x hx y hy => by have := (bL7 y hy).1; have := (bL6 x hx).1; omega)
      have hwc : (([] ++ List.take (kp * 3) (wcells (wordsOf s))) ++ [V.int IntKind.i64 9, V.str [47, 42, 33, 49, 42, 47], V.int IntKind.i64 0]) ++ List.drop (kp * 3) (wcells (wordsOf s)) = wcells (putIn (wordsOf s) kp ⟨9, [47, 42, 33, 49, 42, 47], 0⟩) := by
        rw [wcells_takeN _ _ hkl, wcells_drop, List.nil_append, putIn, wcells_app, wcells_app]
        rfl
      rw [hwc] at hl8
      obtain ⟨p1, p2, p3⟩ := putIn_at (w := ⟨9, [47, 42, 33, 49, 42, 47], 0⟩) hkl
      have hacc : Wx.Acc h3.nx h8 v8 (wcells (putIn (wordsOf s) kp ⟨9, [47, 42, 33, 49, 42, 47], 0⟩)) 36 3 := by
        rcases hl8 with ha | ⟨q, _⟩
        · exact ha
        · have := congrArg List.length q
          rw [wcells_len, p3] at this
          simp at this
      have hodd : oddsP (putIn (wordsOf s) kp ⟨9, [47, 42, 33, 49, 42, 47], 0⟩) := ⟨kp, p1, by unfold oddW; rw [p2]; exact .inl rfl⟩
      have hX8 : Ext h h8 := by
        refine hx2.trans (hx3.trans ⟨by have : h6.nx ≤ h8.nx := hn8; omega, fun k hk => by rw [hf8 k hk, hx6.2 k hk]⟩)
      refine callF_pure (one_odd_spec hS v8 _ h8 (.of_acc hacc) (by rw [p3]; omega) hodd) ?_
      rintro v h9 hx9 rfl
      simp +contextual (disch := first | (simp only [factsC, clsL, clsS, clsC, isPtrD]; done) | omega | (simp only [push_nx, put_nx, del_nx]; omega) | (refine Nat.le_antisymm ?_ ?_ <;> simp only [push_nx, put_nx, del_nx] <;> omega) | fail) only [wpy, factsC, wpb, cst, wpk, wpl, forall_const, implies_true, false_implies, Int.reduceLE, Int.reduceLT, Nat.reduceLeDiff, UInt8.reduceToNat, ↓reduceIte, Nat.reduceEqDiff, Nat.reduceAdd, reduceCtorEq, Int.reduceToNat, clsL, clsS, clsC, Tryd.f8, hm, hl1, hl2, b1, hf.1, hf.2, hk, hki, Int.reduceEq, c7, c5, hla2]
      refine callF_pure (kind_spec hS 13 h9) ?_
      rintro v h10 hx10 rfl
      simp +contextual (disch := first | (simp only [factsC, clsL, clsS, clsC, isPtrD]; done) | omega | (simp only [push_nx, put_nx, del_nx]; omega) | (refine Nat.le_antisymm ?_ ?_ <;> simp only [push_nx, put_nx, del_nx] <;> omega) | fail) only [wpy, factsC, wpb, cst, wpk, wpl, forall_const, implies_true, false_implies, Int.reduceLE, Int.reduceLT, Nat.reduceLeDiff, UInt8.reduceToNat, ↓reduceIte, Nat.reduceEqDiff, Nat.reduceAdd, reduceCtorEq, Int.reduceToNat, clsL, clsS, clsC, Tryd.f8, hm, hl1, hl2, b1, hf.1, hf.2, hk, hki, Int.reduceEq, c7, c5, hla2, cls_eql]
      exact (hX8.trans hx9).trans hx10
    · simp +contextual (disch := first | (simp only [factsC, clsL, clsS, clsC, isPtrD]; done) | omega | (simp only [push_nx, put_nx, del_nx]; omega) | (refine Nat.le_antisymm ?_ ?_ <;> simp only [push_nx, put_nx, del_nx] <;> omega) | fail) only [wpy, factsC, wpb, cst, wpk, wpl, forall_const, implies_true, false_implies, Int.reduceLE, Int.reduceLT, Nat.reduceLeDiff, UInt8.reduceToNat, ↓reduceIte, Nat.reduceEqDiff, Nat.reduceAdd, reduceCtorEq, Int.reduceToNat, clsL, clsS, clsC, Tryd.f8, hm, hl1, hl2, b1, hf.1, hf.2, hk, hki, Int.reduceEq, c7, c5, hla2]
      refine ⟨.inr (by omega), callF_exact (hps _) ?_⟩
      generalize hH : H.put _ (h2.nx + 1) _ = h3
      have hn3 : h3.nx = h2.nx + 2 := by rw [← hH]; rfl
      have hg3 : h3.get (h2.nx + 1) = some (.cells [.int .i64 1, .str (pickL[kn]'hk), .int .i64 0] 36 false) := by rw [← hH]; exact put_eq rfl
      have hx3 : Ext h2 h3 := by
        rw [← hH]
        repeat' (first | exact Ext.refl _ | refine Ext.push ?_ _ | refine Ext.put ?_ (Nat.le_succ _) _)
      clear hH
      simp +contextual (disch := first | (simp only [factsC, clsL, clsS, clsC, isPtrD]; done) | omega | (simp only [push_nx, put_nx, del_nx]; omega) | (refine Nat.le_antisymm ?_ ?_ <;> simp only [push_nx, put_nx, del_nx] <;> omega) | fail) only [wpy, factsC, wpb, cst, wpk, wpl, forall_const, implies_true, false_implies, Int.reduceLE, Int.reduceLT, Nat.reduceLeDiff, UInt8.reduceToNat, ↓reduceIte, Nat.reduceEqDiff, Nat.reduceAdd, reduceCtorEq, Int.reduceToNat, clsL, clsS, clsC, Tryd.f8, hm, hl1, hl2, b1, hf.1, hf.2, hk, hki, Int.reduceEq, c7, c5, hla2, hg3]
      refine draw_by [(0, 3), (0, 5), (0, 6), (0, 10), (3, 6), (4, 5), (4, 6), (4, 10), (6, 10), (7, 10)] (by kernel_rfl) ?_
      simp +contextual (disch := first | (simp only [factsC, clsL, clsS, clsC, isPtrD]; done) | omega | (simp only [push_nx, put_nx, del_nx]; omega) | (refine Nat.le_antisymm ?_ ?_ <;> simp only [push_nx, put_nx, del_nx] <;> omega) | fail) only [wpy, factsC, wpb, cst, wpk, wpl, forall_const, implies_true, false_implies, Int.reduceLE, Int.reduceLT, Nat.reduceLeDiff, UInt8.reduceToNat, ↓reduceIte, Nat.reduceEqDiff, Nat.reduceAdd, reduceCtorEq, Int.reduceToNat, clsL, clsS, clsC, Tryd.f8, hm, hl1, hl2, b1, hf.1, hf.2, hk, hki, Int.reduceEq, c7, c5, hla2, hg3]
      have hxp : Ext h3 (h3.push (.cells [] 36 false)) := (Ext.refl _).push _
      refine slice_take (sz := 3) (len := (wordsOf s).length) (k := kp) (lv := l) (by kernel_rfl) (by kernel_rfl) (by decide) ?_ ?_ ((hl'.ext hx3).ext hxp) (wcells_len _) hkl ?_
      · simp +contextual (disch := first | (simp only [factsC, clsL, clsS, clsC, isPtrD]; done) | omega | (simp only [push_nx, put_nx, del_nx]; omega) | (refine Nat.le_antisymm ?_ ?_ <;> simp only [push_nx, put_nx, del_nx] <;> omega) | fail) only [wpy, factsC, wpb, cst, wpk, wpl, forall_const, implies_true, false_implies, Int.reduceLE, Int.reduceLT, Nat.reduceLeDiff, UInt8.reduceToNat, ↓reduceIte, Nat.reduceEqDiff, Nat.reduceAdd, reduceCtorEq, Int.reduceToNat, clsL, clsS, clsC]
      · simp +contextual (disch := first | (simp only [factsC, clsL, clsS, clsC, isPtrD]; done) | omega | (simp only [push_nx, put_nx, del_nx]; omega) | (refine Nat.le_antisymm ?_ ?_ <;> simp only [push_nx, put_nx, del_nx] <;> omega) | fail) only [wpy, factsC, wpb, cst, wpk, wpl, forall_const, implies_true, false_implies, Int.reduceLE, Int.reduceLT, Nat.reduceLeDiff, UInt8.reduceToNat, ↓reduceIte, Nat.reduceEqDiff, Nat.reduceAdd, reduceCtorEq, Int.reduceToNat, clsL, clsS, clsC]
      intro v4 L4 hs4 hL4 hv4
      simp +contextual (disch := first | (simp only [factsC, clsL, clsS, clsC, isPtrD]; done) | omega | (simp only [push_nx, put_nx, del_nx]; omega) | (refine Nat.le_antisymm ?_ ?_ <;> simp only [push_nx, put_nx, del_nx] <;> omega) | fail) only [wpy, factsC, wpb, cst, wpk, wpl, forall_const, implies_true, false_implies, Int.reduceLE, Int.reduceLT, Nat.reduceLeDiff, UInt8.reduceToNat, ↓reduceIte, Nat.reduceEqDiff, Nat.reduceAdd, reduceCtorEq, Int.reduceToNat, clsL, clsS, clsC, Tryd.f8, hm, hl1, hl2, b1, hf.1, hf.2, hk, hki, Int.reduceEq, c7, c5, hla2, hg3]
      refine append_lst (n0 := h3.nx) (cells := []) (sv := .slice h3.nx 0 0 0) (xv := v4) ?_ ?_ ap23 ⟨.slice 36, by kernel_rfl, rfl⟩ (.inr ⟨rfl, h3.nx, Nat.le_refl _, Nat.lt_succ_self _, rfl, push_eq rfl⟩) hs4 ?_ ?_ (by decide) (fun k hk => by rw [fresh_def]; exact .inl (by have := hx3.1; have := hx2.1; omega)) (Nat.le_succ _) ?_
      · simp +contextual (disch := first | (simp only [factsC, clsL, clsS, clsC, isPtrD]; done) | omega | (simp only [push_nx, put_nx, del_nx]; omega) | (refine Nat.le_antisymm ?_ ?_ <;> simp only [push_nx, put_nx, del_nx] <;> omega) | fail) only [wpy, factsC, wpb, cst, wpk, wpl, forall_const, implies_true, false_implies, Int.reduceLE, Int.reduceLT, Nat.reduceLeDiff, UInt8.reduceToNat, ↓reduceIte, Nat.reduceEqDiff, Nat.reduceAdd, reduceCtorEq, Int.reduceToNat, clsL, clsS, clsC]
      · simp +contextual (disch := first | (simp only [factsC, clsL, clsS, clsC, isPtrD]; done) | omega | (simp only [push_nx, put_nx, del_nx]; omega) | (refine Nat.le_antisymm ?_ ?_ <;> simp only [push_nx, put_nx, del_nx] <;> omega) | fail) only [wpy, factsC, wpb, cst, wpk, wpl, forall_const, implies_true, false_implies, Int.reduceLE, Int.reduceLT, Nat.reduceLeDiff, UInt8.reduceToNat, ↓reduceIte, Nat.reduceEqDiff, Nat.reduceAdd, reduceCtorEq, Int.reduceToNat, clsL, clsS, clsC]
      · rw [wcells_takeN _ _ hkl]; exact wcells_isCell _
      · rw [wcells_takeN _ _ hkl, wcells_len, List.length_take]; simp only [List.length_nil]; omega
      intro v5 h5 L5 hl5 hn5 hk5 hf5 hL5
      have hn5 : h3.nx + 1 ≤ h5.nx := hn5
      have hg5 : h5.get (h2.nx + 1) = some (.cells [.int .i64 1, .str (pickL[kn]'hk), .int .i64 0] 36 false) := by rw [hf5 _ (by omega), push_ne (by omega)]; exact hg3
      have hx5 : Ext h3 h5 := ⟨by omega, fun k hk => by rw [hf5 k hk, push_ne (by omega)]⟩
      simp +contextual (disch := first | (simp only [factsC, clsL, clsS, clsC, isPtrD]; done) | omega | (simp only [push_nx, put_nx, del_nx]; omega) | (refine Nat.le_antisymm ?_ ?_ <;> simp only [push_nx, put_nx, del_nx] <;> omega) | fail) only [wpy, factsC, wpb, cst, wpk, wpl, forall_const, implies_true, false_implies, Int.reduceLE, Int.reduceLT, Nat.reduceLeDiff, UInt8.reduceToNat, ↓reduceIte, Nat.reduceEqDiff, Nat.reduceAdd, reduceCtorEq, Int.reduceToNat, clsL, clsS, clsC, Tryd.f8, hm, hl1, hl2, b1, hf.1, hf.2, hk, hki, Int.reduceEq, c7, c5, hla2, hg5]
      refine append_lst (n0 := h3.nx) (sv := v5) (xv := .slice h5.nx 0 1 1) (new := [.int .i64 1, .str (pickL[kn]'hk), .int .i64 0]) ?_ ?_ ap23 ⟨.slice 36, by kernel_rfl, rfl⟩ (hl5.ext ((Ext.refl _).push _)) (.inr ⟨h5.nx, 0, 1, 1, rfl, Nat.lt_succ_self _, by rw [push_eq rfl]; exact rdC_all rfl, rfl⟩) rfl ?_ (by decide) (fun k hk => by rw [fresh_def]; exact .inl (by have := hx3.1; have := hx2.1; omega)) (by show h3.nx ≤ h5.nx + 1; omega) ?_
      · simp +contextual (disch := first | (simp only [factsC, clsL, clsS, clsC, isPtrD]; done) | omega | (simp only [push_nx, put_nx, del_nx]; omega) | (refine Nat.le_antisymm ?_ ?_ <;> simp only [push_nx, put_nx, del_nx] <;> omega) | fail) only [wpy, factsC, wpb, cst, wpk, wpl, forall_const, implies_true, false_implies, Int.reduceLE, Int.reduceLT, Nat.reduceLeDiff, UInt8.reduceToNat, ↓reduceIte, Nat.reduceEqDiff, Nat.reduceAdd, reduceCtorEq, Int.reduceToNat, clsL, clsS, clsC]
      · simp +contextual (disch := first | (simp only [factsC, clsL, clsS, clsC, isPtrD]; done) | omega | (simp only [push_nx, put_nx, del_nx]; omega) | (refine Nat.le_antisymm ?_ ?_ <;> simp only [push_nx, put_nx, del_nx] <;> omega) | fail) only [wpy, factsC, wpb, cst, wpk, wpl, forall_const, implies_true, false_implies, Int.reduceLE, Int.reduceLT, Nat.reduceLeDiff, UInt8.reduceToNat, ↓reduceIte, Nat.reduceEqDiff, Nat.reduceAdd, reduceCtorEq, Int.reduceToNat, clsL, clsS, clsC]
      · rw [wcells_takeN _ _ hkl, List.nil_append, wcells_len, List.length_take]; simp only [List.length_cons, List.length_nil]; omega
      intro v6 h6 L6 hl6 hn6 hk6 hf6 hL6
      have hn6 : h5.nx + 1 ≤ h6.nx := hn6
      have hx6 : Ext h3 h6 := ⟨by omega, fun k hk => by rw [hf6 k hk, push_ne (by omega), hx5.2 k hk]⟩
      simp +contextual (disch := first | (simp only [factsC, clsL, clsS, clsC, isPtrD]; done) | omega | (simp only [push_nx, put_nx, del_nx]; omega) | (refine Nat.le_antisymm ?_ ?_ <;> simp only [push_nx, put_nx, del_nx] <;> omega) | fail) only [wpy, factsC, wpb, cst, wpk, wpl, forall_const, implies_true, false_implies, Int.reduceLE, Int.reduceLT, Nat.reduceLeDiff, UInt8.reduceToNat, ↓reduceIte, Nat.reduceEqDiff, Nat.reduceAdd, reduceCtorEq, Int.reduceToNat, clsL, clsS, clsC, Tryd.f8, hm, hl1, hl2, b1, hf.1, hf.2, hk, hki, Int.reduceEq, c7, c5, hla2]
      refine slice_drop (sz := 3) (len := (wordsOf s).length) (k := kp) (lv := l) (by kernel_rfl) (by kernel_rfl) (by decide) ?_ ?_ ((hl'.ext hx3).ext hx6) (wcells_len _) hkl ?_
      · simp +contextual (disch := first | (simp only [factsC, clsL, clsS, clsC, isPtrD]; done) | omega | (simp only [push_nx, put_nx, del_nx]; omega) | (refine Nat.le_antisymm ?_ ?_ <;> simp only [push_nx, put_nx, del_nx] <;> omega) | fail) only [wpy, factsC, wpb, cst, wpk, wpl, forall_const, implies_true, false_implies, Int.reduceLE, Int.reduceLT, Nat.reduceLeDiff, UInt8.reduceToNat, ↓reduceIte, Nat.reduceEqDiff, Nat.reduceAdd, reduceCtorEq, Int.reduceToNat, clsL, clsS, clsC]
      · simp +contextual (disch := first | (simp only [factsC, clsL, clsS, clsC, isPtrD]; done) | omega | (simp only [push_nx, put_nx, del_nx]; omega) | (refine Nat.le_antisymm ?_ ?_ <;> simp only [push_nx, put_nx, del_nx] <;> omega) | fail) only [wpy, factsC, wpb, cst, wpk, wpl, forall_const, implies_true, false_implies, Int.reduceLE, Int.reduceLT, Nat.reduceLeDiff, UInt8.reduceToNat, ↓reduceIte, Nat.reduceEqDiff, Nat.reduceAdd, reduceCtorEq, Int.reduceToNat, clsL, clsS, clsC]
      intro v7 L7 hs7 hL7 hv7
      simp +contextual (disch := first | (simp only [factsC, clsL, clsS, clsC, isPtrD]; done) | omega | (simp only [push_nx, put_nx, del_nx]; omega) | (refine Nat.le_antisymm ?_ ?_ <;> simp only [push_nx, put_nx, del_nx] <;> omega) | fail) only [wpy, factsC, wpb, cst, wpk, wpl, forall_const, implies_true, false_implies, Int.reduceLE, Int.reduceLT, Nat.reduceLeDiff, UInt8.reduceToNat, ↓reduceIte, Nat.reduceEqDiff, Nat.reduceAdd, reduceCtorEq, Int.reduceToNat, clsL, clsS, clsC, Tryd.f8, hm, hl1, hl2, b1, hf.1, hf.2, hk, hki, Int.reduceEq, c7, c5, hla2]
      refine append_lst (n0 := h3.nx) (sv := v6) (xv := v7) ?_ ?_ ap23 ⟨.slice 36, by kernel_rfl, rfl⟩ hl6 hs7 ?_ ?_ (by decide) (fun k hk => by rw [fresh_def]; exact .inl (by have := hx3.1; have := hx2.1; omega)) hx6.1 ?_
      · simp +contextual (disch := first | (simp only [factsC, clsL, clsS, clsC, isPtrD]; done) | omega | (simp only [push_nx, put_nx, del_nx]; omega) | (refine Nat.le_antisymm ?_ ?_ <;> simp only [push_nx, put_nx, del_nx] <;> omega) | fail) only [wpy, factsC, wpb, cst, wpk, wpl, forall_const, implies_true, false_implies, Int.reduceLE, Int.reduceLT, Nat.reduceLeDiff, UInt8.reduceToNat, ↓reduceIte, Nat.reduceEqDiff, Nat.reduceAdd, reduceCtorEq, Int.reduceToNat, clsL, clsS, clsC]
      · simp +contextual (disch := first | (simp only [factsC, clsL, clsS, clsC, isPtrD]; done) | omega | (simp only [push_nx, put_nx, del_nx]; omega) | (refine Nat.le_antisymm ?_ ?_ <;> simp only [push_nx, put_nx, del_nx] <;> omega) | fail) only [wpy, factsC, wpb, cst, wpk, wpl, forall_const, implies_true, false_implies, Int.reduceLE, Int.reduceLT, Nat.reduceLeDiff, UInt8.reduceToNat, ↓reduceIte, Nat.reduceEqDiff, Nat.reduceAdd, reduceCtorEq, Int.reduceToNat, clsL, clsS, clsC]
      · rw [wcells_drop]; exact wcells_isCell _
      · rw [wcells_drop, wcells_takeN _ _ hkl, List.length_append, List.nil_append, wcells_len, wcells_len, List.length_take, List.length_drop]; simp only [List.length_cons, List.length_nil]; omega
      intro v8 h8 L8 hl8 hn8 hk8 hf8 hL8
      simp +contextual (disch := first | (simp only [factsC, clsL, clsS, clsC, isPtrD]; done) | omega | (simp only [push_nx, put_nx, del_nx]; omega) | (refine Nat.le_antisymm ?_ ?_ <;> simp only [push_nx, put_nx, del_nx] <;> omega) | fail) only [wpy, factsC, wpb, cst, wpk, wpl, forall_const, implies_true, false_implies, Int.reduceLE, Int.reduceLT, Nat.reduceLeDiff, UInt8.reduceToNat, ↓reduceIte, Nat.reduceEqDiff, Nat.reduceAdd, reduceCtorEq, Int.reduceToNat, clsL, clsS, clsC, Tryd.f8, hm, hl1, hl2, b1, hf.1, hf.2, hk, hki, Int.reduceEq, c7, c5, hla2]
      have hlb : ∀ k o n m, l = .slice k o n m → k < h2.nx := fun k o n m q => (hl'.blk q).2
      have hv4b : ∀ k o n m, v4 = .slice k o n m → k < h2.nx := fun k o n m q => by obtain ⟨_, _, _, q⟩ := hv4 _ _ _ _ q; exact hlb _ _ _ _ q
      have hv7b : ∀ k o n m, v7 = .slice k o n m → k < h2.nx := fun k o n m q => by obtain ⟨_, _, _, q⟩ := hv7 _ _ _ _ q; exact hlb _ _ _ _ q
      have bL4 : ∀ x ∈ L4, blkOf x < h2.nx ∧ x.isW = false := fun x hx => by obtain ⟨⟨_, _, _, q⟩, q2⟩ := hL4 x hx; exact ⟨hlb _ _ _ _ q, q2⟩
      have bL7 : ∀ x ∈ L7, blkOf x < h2.nx ∧ x.isW = false := fun x hx => by obtain ⟨⟨_, _, _, q⟩, q2⟩ := hL7 x hx; exact ⟨hlb _ _ _ _ q, q2⟩
      have bL5 : ∀ x ∈ L5, (blkOf x < h2.nx ∧ x.isW = false) ∨ (h3.nx ≤ blkOf x ∧ blkOf x < h5.nx) := fun x hx => by
        rcases hL5 x hx with ⟨⟨_, _, _, q⟩, q2⟩ | ⟨q1, q2⟩ | ⟨_, _, _, q⟩
        · exact .inl ⟨hv4b _ _ _ _ q, q2⟩
        · exact .inr ⟨by have : h3.nx + 1 ≤ blkOf x := q1; omega, q2⟩
        · injection q with e1 e2 e3 e4; exact .inr ⟨by omega, by omega⟩
      have bL6 : ∀ x ∈ L6, h3.nx ≤ blkOf x ∧ blkOf x < h6.nx := fun x hx => by
        rcases hL6 x hx with ⟨⟨_, _, _, q⟩, q2⟩ | ⟨q1, q2⟩ | ⟨_, _, _, q⟩
        · injection q with e1 e2 e3 e4; exact ⟨by omega, by omega⟩
        · exact ⟨by have : h5.nx + 1 ≤ blkOf x := q1; omega, q2⟩
        · rcases hl5 with ha | ⟨_, b, g1, g2, g3, _⟩
          · have := ha.blk q; exact ⟨this.1, by omega⟩
          · rw [g3] at q; injection q with e1 e2 e3 e4; exact ⟨by omega, by omega⟩
      refine ⟨fun pr hpr => ?_, ?_⟩
      · simp only [List.mem_cons, List.not_mem_nil, or_false] at hpr
        rcases hpr with rfl | rfl | rfl | rfl | rfl | rfl | rfl | rfl | rfl | rfl
        · exact pair_one rfl rfl (apart_blk fun x hx y hy => by rw [List.mem_singleton.1 hx]; have := (bL4 y hy).1; show h3.nx ≠ blkOf y; omega)
        · exact pair_one rfl rfl (apart_blk fun x hx y hy => by rw [List.mem_singleton.1 hx, List.mem_singleton.1 hy]; show h3.nx ≠ h2.nx + 1; omega)
        · exact pair_one rfl rfl (apart_blk fun x hx y hy => by rw [List.mem_singleton.1 hx, List.mem_singleton.1 hy]; show h3.nx ≠ h5.nx; omega)
        · exact pair_one rfl rfl (apart_blk fun x hx y hy => by rw [List.mem_singleton.1 hx]; have := (bL7 y hy).1; show h3.nx ≠ blkOf y; omega)
        · exact pair_one rfl rfl (apart_blk fun x hx y hy => by rw [List.mem_singleton.1 hy]; have := (bL4 x hx).1; show blkOf x ≠ h5.nx; omega)
        · exact pair_one rfl rfl (apart_blk fun x hx y hy => by rw [List.mem_singleton.1 hy]; have := bL5 x hx; show blkOf x ≠ h2.nx + 1; omega)
        · exact pair_one rfl rfl (apart_blk fun x hx y hy => by rw [List.mem_singleton.1 hy]; have := bL5 x hx; show blkOf x ≠ h5.nx; omega)
        · exact pair_one rfl rfl (apart_w fun x hx y hy hw => by
            have h7 := bL7 y hy
            rw [h7.2] at hw
            rcases bL5 x hx with q | q
            · rw [q.2] at hw; rcases hw with hw | hw <;> cases hw
            · omega)
        · exact pair_one rfl rfl (apart_blk fun x hx y hy => by rw [List.mem_singleton.1 hx]; have := (bL7 y hy).1; show h5.nx ≠ blkOf y; omega)
        · exact pair_one rfl rfl (apart_blk fun x hx y hy => by have := (bL7 y hy).1; have := (bL6 x hx).1; omega)
      have hwc : (([] ++ List.take (kp * 3) (wcells (wordsOf s))) ++ [V.int IntKind.i64 1, V.str (pickL[kn]'hk), V.int IntKind.i64 0]) ++ List.drop (kp * 3) (wcells (wordsOf s)) = wcells (putIn (wordsOf s) kp ⟨1, (pickL[kn]'hk), 0⟩) := by
        rw [wcells_takeN _ _ hkl, wcells_drop, List.nil_append, putIn, wcells_app, wcells_app]
        rfl
      rw [hwc] at hl8
      obtain ⟨p1, p2, p3⟩ := putIn_at (w := ⟨1, (pickL[kn]'hk), 0⟩) hkl
      have hacc : Wx.Acc h3.nx h8 v8 (wcells (putIn (wordsOf s) kp ⟨1, (pickL[kn]'hk), 0⟩)) 36 3 := by
        rcases hl8 with ha | ⟨q, _⟩
        · exact ha
        · have := congrArg List.length q
          rw [wcells_len, p3] at this
          simp at this
      have hodd : oddsP (putIn (wordsOf s) kp ⟨1, (pickL[kn]'hk), 0⟩) := ⟨kp, p1, by unfold oddW; rw [p2]; exact .inr (.inr (.inl ⟨rfl, hko⟩))⟩
      have hX8 : Ext h h8 := by
        refine hx2.trans (hx3.trans ⟨by have : h6.nx ≤ h8.nx := hn8; omega, fun k hk => by rw [hf8 k hk, hx6.2 k hk]⟩)
      refine callF_pure (one_odd_spec hS v8 _ h8 (.of_acc hacc) (by rw [p3]; omega) hodd) ?_
      rintro v h9 hx9 rfl
      simp +contextual (disch := first | (simp only [factsC, clsL, clsS, clsC, isPtrD]; done) | omega | (simp only [push_nx, put_nx, del_nx]; omega) | (refine Nat.le_antisymm ?_ ?_ <;> simp only [push_nx, put_nx, del_nx] <;> omega) | fail) only [wpy, factsC, wpb, cst, wpk, wpl, forall_const, implies_true, false_implies, Int.reduceLE, Int.reduceLT, Nat.reduceLeDiff, UInt8.reduceToNat, ↓reduceIte, Nat.reduceEqDiff, Nat.reduceAdd, reduceCtorEq, Int.reduceToNat, clsL, clsS, clsC, Tryd.f8, hm, hl1, hl2, b1, hf.1, hf.2, hk, hki, Int.reduceEq, c7, c5, hla2]
      refine callF_pure (kind_spec hS 13 h9) ?_
      rintro v h10 hx10 rfl
      simp +contextual (disch := first | (simp only [factsC, clsL, clsS, clsC, isPtrD]; done) | omega | (simp only [push_nx, put_nx, del_nx]; omega) | (refine Nat.le_antisymm ?_ ?_ <;> simp only [push_nx, put_nx, del_nx] <;> omega) | fail) only [wpy, factsC, wpb, cst, wpk, wpl, forall_const, implies_true, false_implies, Int.reduceLE, Int.reduceLT, Nat.reduceLeDiff, UInt8.reduceToNat, ↓reduceIte, Nat.reduceEqDiff, Nat.reduceAdd, reduceCtorEq, Int.reduceToNat, clsL, clsS, clsC, Tryd.f8, hm, hl1, hl2, b1, hf.1, hf.2, hk, hki, Int.reduceEq, c7, c5, hla2, cls_eql]
      exact (hX8.trans hx9).trans hx10
end
end Go.Proofs.YtkibhdbmamfjcaaDoor
