/-
  Several texts of one walk, joined.
-/
import Derived.Test.YtkibhdbmamfjcaaGreatDoorDgA
import Derived.Test.YtkibhdbmamfjcaaGreatDoorScB
set_option maxHeartbeats 1000000
set_option linter.unusedSimpArgs false
set_option linter.unusedVariables false
set_option linter.unusedSectionVars false
set_option linter.defProp false
set_option maxRecDepth 10000
namespace Go.Proofs.YtkibhdbmamfjcaaGreatDoor
open Int (reduceLE reduceLT reduceToNat)
open Nat (reduceLeDiff reduceEqDiff reduceAdd)
open Go.Proofs Go.Lx Go.Wx Go.IntWalk
noncomputable section
structure StdR (S : Set0) : Prop extends StdH S where
  ownR : ∀ f, f ∈ [3, 6, 8, 14, 15, 17, 37, 38, 39, 40, 41, 42, 44, 45, 46, 47, 48, 76, 77, 78, 79, 100] → sums S.exts f = none

theorem row_kind {c : List V} {p : Nat} {a b d : V} (h : (c.drop p).take 3 = [a, b, d]) : c[p]? = some a := by
  have h1 := congrArg (fun l : List V => l[0]?) h
  simpa [List.getElem?_take, List.getElem?_drop] using h1
theorem isS_two (w : WD) (a b : List Nat) : isS w [a, b] ↔ isS w [a] ∨ isS w [b] := by
  unfold isS
  simp only [List.mem_cons, List.not_mem_nil, or_false]
  constructor
  · rintro ⟨h, h1 | h1⟩
    · exact .inl ⟨h, h1⟩
    · exact .inr ⟨h, h1⟩
  · rintro (⟨h, h1⟩ | ⟨h, h1⟩)
    · exact ⟨h, .inl h1⟩
    · exact ⟨h, .inr h1⟩
theorem isS_three (w : WD) (a b c : List Nat) : isS w [a, b, c] ↔ isS w [a] ∨ isS w [b] ∨ isS w [c] := by
  unfold isS
  simp only [List.mem_cons, List.not_mem_nil, or_false]
  constructor
  · rintro ⟨h, h1 | h1 | h1⟩
    · exact .inl ⟨h, h1⟩
    · exact .inr (.inl ⟨h, h1⟩)
    · exact .inr (.inr ⟨h, h1⟩)
  · rintro (⟨h, h1⟩ | ⟨h, h1⟩ | ⟨h, h1⟩)
    · exact ⟨h, .inl h1⟩
    · exact ⟨h, .inr (.inl h1)⟩
    · exact ⟨h, .inr (.inr h1)⟩
theorem isS_one (w : WD) (a : List Nat) : isS w [a] ↔ w.kind = 5 ∧ w.text = a := by
  unfold isS
  simp only [List.mem_cons, List.not_mem_nil, or_false]

variable {S : Set0} (hS : StdR S)
include hS
theorem rsgn_spec (w : WD) (s : List Nat) (h : H) : Pure S.cfg 78 [.agg w.cells, .str s] h fun v _ => v = bo (isS w [s]) := by
  refine into Tryz.f78 _ Tryz.func78 (hS.ownR _ (by decide)) rfl rfl (by kernel_rfl) (by kernel_rfl) ?_
  have h1 := isS_one w s
  by_cases hk : w.kind = 5
  · simp +contextual (disch := first | (simp only [fr]; done) | omega | (simp only [Knx]; omega) | (apply Nat.le_antisymm <;> simp only [Knx] <;> omega) | fail) only [wpy, fD, reduceLE, reduceLT, reduceLeDiff, UInt8.reduceToNat, ↓reduceIte, reduceEqDiff, reduceAdd, reduceCtorEq, reduceToNat, Tryz.f78, wcell, hk]
    first | exact ⟨(Ext.refl h).push _, bo_eq (by rw [h1]; exact ⟨fun q => ⟨hk, q⟩, fun q => q.2⟩)⟩ | trace_state
  · simp +contextual (disch := first | (simp only [fr]; done) | omega | (simp only [Knx]; omega) | (apply Nat.le_antisymm <;> simp only [Knx] <;> omega) | fail) only [wpy, fD, reduceLE, reduceLT, reduceLeDiff, UInt8.reduceToNat, ↓reduceIte, reduceEqDiff, reduceAdd, reduceCtorEq, reduceToNat, Tryz.f78, wcell, hk]
    first | exact ⟨(Ext.refl h).push _, bo_eq (by rw [h1]; exact ⟨fun q => q.elim, fun q => hk q.1⟩)⟩ | trace_state
theorem rlits_spec (lv : V) (ws : List WD) (h : H) (ha : Wds h lv ws) (hwl : ws.length < 2 ^ 27) : Pure S.cfg 42 [lv] h fun v h' => Wx.Acc h.nx h' v (wcells (valF ws)) 43 3 := by
  refine into Tryz.f42 _ Tryz.func42 (hS.ownR _ (by decide)) rfl rfl (by kernel_rfl) (by kernel_rfl) ?_
  have a1 := ha.len
  simp +contextual (disch := first | (simp only [fr]; done) | omega | (simp only [Knx]; omega) | (apply Nat.le_antisymm <;> simp only [Knx] <;> omega) | fail) only [wpy, fD, reduceLE, reduceLT, reduceLeDiff, UInt8.reduceToNat, ↓reduceIte, reduceEqDiff, reduceAdd, reduceCtorEq, reduceToNat, Tryz.f42, a1]
  refine run_loop (fun k env h' => ∃ (i : Nat) (l : V), k = ws.length - i ∧ i ≤ ws.length ∧ env 0 = lv ∧ env 3 = l ∧ env 4 = .int .i64 i ∧ Ext h h' ∧ Wx.Acc h.nx h' l (wcells (valF (ws.take i))) 43 3) ws.length ⟨0, .nilslice, ?_⟩ ?_
  · simp +contextual (disch := first | (simp only [fr]; done) | omega | (simp only [Knx]; omega) | (apply Nat.le_antisymm <;> simp only [Knx] <;> omega) | fail) only [wpy, fD, reduceLE, reduceLT, reduceLeDiff, UInt8.reduceToNat, ↓reduceIte, reduceEqDiff, reduceAdd, reduceCtorEq, reduceToNat]
    exact ⟨by simp, Ext.refl _, .inl ⟨rfl, rfl⟩⟩
  rintro k env h' ⟨i, l, rfl, hi, e0, e3, e4, hx, hl⟩
  have hxn := hx.1
  have hc1 := hl.cell.1
  have hc2 := hl.cell.2
  by_cases hi2 : i < ws.length
  · obtain ⟨b, o, mc, c, fl, rfl, hbn, hgb, w0, w1⟩ := (ha.ext hx).get hi2
    rw [wcell] at w1
    have hbn' : ¬ b = h'.nx := by omega
    have hacc : (valF (ws.take i)).length < 2 ^ 28 := by have := valF_len (ws.take i); rw [List.length_take] at this; omega
    have hst := valF_step hi2
    have hend : ∀ w : WD, val1 (gw ws i) = [w] → ∀ v h4, Wx.Acc h.nx h4 v (wcells (valF (ws.take i) ++ [w])) 43 3 → h'.nx + 1 < h4.nx → (∀ k, k < h.nx → h4.get k = h'.get k) → ∃ m', m' < ws.length - i ∧ ∃ (i' : Nat) (l : V), m' = ws.length - i' ∧ i' ≤ ws.length ∧ v = l ∧ i + 1 = i' ∧ Ext h h4 ∧ Wx.Acc h.nx h4 l (wcells (valF (ws.take i'))) 43 3 := fun w hw v h4 ha4 hn4 hf4 => ⟨_, by omega, i + 1, v, rfl, by omega, rfl, rfl, ⟨by omega, fun k hk => by rw [hf4 k hk, hx.2 k hk]⟩, by rw [hst, hw]; exact ha4⟩
    by_cases c9 : (gw ws i).kind = 9
    · simp +contextual (disch := first | (simp only [fr]; done) | omega | (simp only [Knx]; omega) | (apply Nat.le_antisymm <;> simp only [Knx] <;> omega) | exact dok (by kernel_rfl)) only [draw_calm, draw_calmA, wpy, fD, reduceLE, reduceLT, reduceLeDiff, UInt8.reduceToNat, ↓reduceIte, reduceEqDiff, reduceAdd, reduceCtorEq, reduceToNat, Tryz.f42, e0, e3, e4, hi2, a1, hgb, hbn', w0, w1, c9]
      have hv : val1 (gw ws i) = [] := by rw [val1, if_pos c9]
      exact ⟨.inr hxn, _, by omega, i + 1, l, rfl, by omega, rfl, rfl, (hx.push _).put hxn _, by rw [hst, hv, List.append_nil]; exact hl.ext (Ext.new _ _ _)⟩
    by_cases c34 : (gw ws i).kind = 3 ∨ (gw ws i).kind = 4
    · have hv : val1 (gw ws i) = [⟨8, [], (gw ws i).at_⟩] := by rw [val1, if_neg c9, if_pos c34]
      rcases c34 with c3 | c4
      · simp +contextual (disch := first | (simp only [fr]; done) | omega | (simp only [Knx]; omega) | (apply Nat.le_antisymm <;> simp only [Knx] <;> omega) | exact dok (by kernel_rfl)) only [draw_calm, draw_calmA, wpy, fD, reduceLE, reduceLT, reduceLeDiff, UInt8.reduceToNat, ↓reduceIte, reduceEqDiff, reduceAdd, reduceCtorEq, reduceToNat, Tryz.f42, e0, e3, e4, hi2, a1, hgb, hbn', w0, w1, c9, c3]
        refine ⟨.inr hxn, .inr hxn, app_word (n0 := h.nx) (l := l) (acc := valF (ws.take i)) ⟨8, [], (gw ws i).at_⟩ (by simp +contextual (disch := first | (simp only [fr]; done) | omega | (simp only [Knx]; omega) | (apply Nat.le_antisymm <;> simp only [Knx] <;> omega) | fail) only [wpy, fD, reduceLE, reduceLT, reduceLeDiff, UInt8.reduceToNat, ↓reduceIte, reduceEqDiff, reduceAdd, reduceCtorEq, reduceToNat]) (by simp +contextual (disch := first | (simp only [fr]; done) | omega | (simp only [Knx]; omega) | (apply Nat.le_antisymm <;> simp only [Knx] <;> omega) | fail) only [wpy, fD, reduceLE, reduceLT, reduceLeDiff, UInt8.reduceToNat, ↓reduceIte, reduceEqDiff, reduceAdd, reduceCtorEq, reduceToNat]) (hl.ext (((Ext.new _ _ _)).put (Nat.le_refl _) _)) hacc (fun k hk => by rw [fresh_def]; exact .inl hk) (by show h.nx ≤ h'.nx + 1; omega) ?_⟩
        intro v h4 L ha4 hn4 hf4
        have hv1 := ha4.cell.1
        have hv2 := ha4.cell.2
        simp +contextual (disch := first | (simp only [fr]; done) | omega | (simp only [Knx]; omega) | (apply Nat.le_antisymm <;> simp only [Knx] <;> omega) | fail) only [wpy, fD, reduceLE, reduceLT, reduceLeDiff, UInt8.reduceToNat, ↓reduceIte, reduceEqDiff, reduceAdd, reduceCtorEq, reduceToNat, Tryz.f42, e0, e3, e4, hv1, hv2]
        exact hend _ hv v h4 ha4 hn4 fun k hk => by rw [hf4 k hk, put_ne (by omega), put_ne (by omega), push_ne (by omega)]
      · have c3 : ¬ (gw ws i).kind = 3 := by omega
        simp +contextual (disch := first | (simp only [fr]; done) | omega | (simp only [Knx]; omega) | (apply Nat.le_antisymm <;> simp only [Knx] <;> omega) | exact dok (by kernel_rfl)) only [draw_calm, draw_calmA, wpy, fD, reduceLE, reduceLT, reduceLeDiff, UInt8.reduceToNat, ↓reduceIte, reduceEqDiff, reduceAdd, reduceCtorEq, reduceToNat, Tryz.f42, e0, e3, e4, hi2, a1, hgb, hbn', w0, w1, c9, c3, c4]
        refine ⟨.inr hxn, .inr hxn, app_word (n0 := h.nx) (l := l) (acc := valF (ws.take i)) ⟨8, [], (gw ws i).at_⟩ (by simp +contextual (disch := first | (simp only [fr]; done) | omega | (simp only [Knx]; omega) | (apply Nat.le_antisymm <;> simp only [Knx] <;> omega) | fail) only [wpy, fD, reduceLE, reduceLT, reduceLeDiff, UInt8.reduceToNat, ↓reduceIte, reduceEqDiff, reduceAdd, reduceCtorEq, reduceToNat]) (by simp +contextual (disch := first | (simp only [fr]; done) | omega | (simp only [Knx]; omega) | (apply Nat.le_antisymm <;> simp only [Knx] <;> omega) | fail) only [wpy, fD, reduceLE, reduceLT, reduceLeDiff, UInt8.reduceToNat, ↓reduceIte, reduceEqDiff, reduceAdd, reduceCtorEq, reduceToNat]) (hl.ext (((Ext.new _ _ _)).put (Nat.le_refl _) _)) hacc (fun k hk => by rw [fresh_def]; exact .inl hk) (by show h.nx ≤ h'.nx + 1; omega) ?_⟩
        intro v h4 L ha4 hn4 hf4
        have hv1 := ha4.cell.1
        have hv2 := ha4.cell.2
        simp +contextual (disch := first | (simp only [fr]; done) | omega | (simp only [Knx]; omega) | (apply Nat.le_antisymm <;> simp only [Knx] <;> omega) | fail) only [wpy, fD, reduceLE, reduceLT, reduceLeDiff, UInt8.reduceToNat, ↓reduceIte, reduceEqDiff, reduceAdd, reduceCtorEq, reduceToNat, Tryz.f42, e0, e3, e4, hv1, hv2]
        exact hend _ hv v h4 ha4 hn4 fun k hk => by rw [hf4 k hk, put_ne (by omega), put_ne (by omega), push_ne (by omega)]
    · have c3 : ¬ (gw ws i).kind = 3 := fun q => c34 (.inl q)
      have c4 : ¬ (gw ws i).kind = 4 := fun q => c34 (.inr q)
      have hv : val1 (gw ws i) = [gw ws i] := by rw [val1, if_neg c9, if_neg c34]
      simp +contextual (disch := first | (simp only [fr]; done) | omega | (simp only [Knx]; omega) | (apply Nat.le_antisymm <;> simp only [Knx] <;> omega) | exact dok (by kernel_rfl)) only [draw_calm, draw_calmA, wpy, fD, reduceLE, reduceLT, reduceLeDiff, UInt8.reduceToNat, ↓reduceIte, reduceEqDiff, reduceAdd, reduceCtorEq, reduceToNat, Tryz.f42, e0, e3, e4, hi2, a1, hgb, hbn', w0, w1, c9, c3, c4]
      refine ⟨.inr hxn, app_word (n0 := h.nx) (l := l) (acc := valF (ws.take i)) (gw ws i) (by simp +contextual (disch := first | (simp only [fr]; done) | omega | (simp only [Knx]; omega) | (apply Nat.le_antisymm <;> simp only [Knx] <;> omega) | fail) only [wpy, fD, reduceLE, reduceLT, reduceLeDiff, UInt8.reduceToNat, ↓reduceIte, reduceEqDiff, reduceAdd, reduceCtorEq, reduceToNat]) (by simp +contextual (disch := first | (simp only [fr]; done) | omega | (simp only [Knx]; omega) | (apply Nat.le_antisymm <;> simp only [Knx] <;> omega) | fail) only [wpy, fD, reduceLE, reduceLT, reduceLeDiff, UInt8.reduceToNat, ↓reduceIte, reduceEqDiff, reduceAdd, reduceCtorEq, reduceToNat]) (hl.ext (Ext.new _ _ _)) hacc (fun k hk => by rw [fresh_def]; exact .inl hk) (by show h.nx ≤ h'.nx + 1; omega) ?_⟩
      intro v h4 L ha4 hn4 hf4
      have hv1 := ha4.cell.1
      have hv2 := ha4.cell.2
      simp +contextual (disch := first | (simp only [fr]; done) | omega | (simp only [Knx]; omega) | (apply Nat.le_antisymm <;> simp only [Knx] <;> omega) | fail) only [wpy, fD, reduceLE, reduceLT, reduceLeDiff, UInt8.reduceToNat, ↓reduceIte, reduceEqDiff, reduceAdd, reduceCtorEq, reduceToNat, Tryz.f42, e0, e3, e4, hv1, hv2]
      exact hend _ hv v h4 ha4 hn4 fun k hk => by rw [hf4 k hk, put_ne (by omega), push_ne (by omega)]
  · have hle : i = ws.length := by omega
    subst hle
    rw [List.take_length] at hl
    simp +contextual (disch := first | (simp only [fr]; done) | omega | (simp only [Knx]; omega) | (apply Nat.le_antisymm <;> simp only [Knx] <;> omega) | exact dok (by kernel_rfl)) only [draw_calm, draw_calmA, wpy, fD, reduceLE, reduceLT, reduceLeDiff, UInt8.reduceToNat, ↓reduceIte, reduceEqDiff, reduceAdd, reduceCtorEq, reduceToNat, Tryz.f42, e0, e3, e4, hi2, a1]
    first | exact ⟨hx, hl⟩ | trace_state
theorem rsigns_spec (lv : V) (ws : List WD) (h : H) (ha : Wds h lv ws) (hwl : ws.length < 2 ^ 27) : Pure S.cfg 41 [lv] h fun v h' => Wx.Acc h.nx h' v (wcells (sigF ws)) 43 3 := by
  refine into Tryz.f41 _ Tryz.func41 (hS.ownR _ (by decide)) rfl rfl (by kernel_rfl) (by kernel_rfl) ?_
  have a1 := ha.len
  simp +contextual (disch := first | (simp only [fr]; done) | omega | (simp only [Knx]; omega) | (apply Nat.le_antisymm <;> simp only [Knx] <;> omega) | fail) only [wpy, fD, reduceLE, reduceLT, reduceLeDiff, UInt8.reduceToNat, ↓reduceIte, reduceEqDiff, reduceAdd, reduceCtorEq, reduceToNat, Tryz.f41, a1]
  refine run_loop (fun k env h' => ∃ (i : Nat) (l : V), k = ws.length - i ∧ i ≤ ws.length ∧ env 0 = lv ∧ env 3 = l ∧ env 4 = .int .i64 i ∧ Ext h h' ∧ Wx.Acc h.nx h' l (wcells (sigN ws i)) 43 3) ws.length ⟨0, .nilslice, ?_⟩ ?_
  · simp +contextual (disch := first | (simp only [fr]; done) | omega | (simp only [Knx]; omega) | (apply Nat.le_antisymm <;> simp only [Knx] <;> omega) | fail) only [wpy, fD, reduceLE, reduceLT, reduceLeDiff, UInt8.reduceToNat, ↓reduceIte, reduceEqDiff, reduceAdd, reduceCtorEq, reduceToNat]
    exact ⟨by simp, Ext.refl _, .inl ⟨rfl, rfl⟩⟩
  rintro k env h' ⟨i, l, rfl, hi, e0, e3, e4, hx, hl⟩
  have hxn := hx.1
  have hc1 := hl.cell.1
  have hc2 := hl.cell.2
  by_cases hi2 : i < ws.length
  · obtain ⟨b, o, mc, c, fl, rfl, hm, hbn, hgb, hw1, hw2, -⟩ := (ha.ext hx).opened (by omega)
    have hacc : (sigN ws i).length < 2 ^ 28 := by have := sigN_len ws i; omega
    have hst := sigN_step ws i
    have u0 := hw1 i hi2
    have w0 := hw2 i hi2
    simp +contextual (disch := first | (simp only [fr]; done) | omega | (simp only [Knx]; omega) | (apply Nat.le_antisymm <;> simp only [Knx] <;> omega) | fail) only [wpyr, fD, reduceLE, reduceLT, reduceLeDiff, UInt8.reduceToNat, ↓reduceIte, reduceEqDiff, reduceAdd, reduceCtorEq, reduceToNat, Tryz.f41, e0, e3, e4, hi2, a1]
    rw [run_cond]
    simp +contextual (disch := first | (simp only [fr]; done) | omega | (simp only [Knx]; omega) | (apply Nat.le_antisymm <;> simp only [Knx] <;> omega) | fail) only [wpyr, fD, reduceLE, reduceLT, reduceLeDiff, UInt8.reduceToNat, ↓reduceIte, reduceEqDiff, reduceAdd, reduceCtorEq, reduceToNat, Tryz.f41, e0, e3, e4, hi2, a1]
    refine run_cut (fun env2 h2 => env2 0 = .slice b o ws.length mc ∧ env2 3 = l ∧ env2 4 = .int .i64 i ∧ env2 5 = bo (i = 0 ∨ isS (gw ws (i - 1)) [[40], [44], [61]]) ∧ Ext h' h2) ?_ ?_
    · by_cases hz : i = 0
      · have hzt := eq_true hz
        have p0 : ¬ 0 < i := by omega
        simp +contextual (disch := first | (simp only [fr]; done) | omega | (simp only [Knx]; omega) | (apply Nat.le_antisymm <;> simp only [Knx] <;> omega) | fail) only [wpy, fD, reduceLE, reduceLT, reduceLeDiff, UInt8.reduceToNat, ↓reduceIte, reduceEqDiff, reduceAdd, reduceCtorEq, reduceToNat, Tryz.f41, e0, e3, e4, hzt, p0]
        exact Ext.refl _
      · obtain ⟨j, rfl⟩ : ∃ j, i = j + 1 := ⟨i - 1, by omega⟩
        have k0 : j < ws.length := by omega
        have u1 := hw1 j k0
        have w1 := hw2 j k0
        have z0 : (j + 1 = 0) = False := by simp
        have p0 : 0 < j + 1 := Nat.succ_pos j
        rw [isS_three, Nat.add_sub_cancel]
        simp +contextual (disch := first | (simp only [fr]; done) | omega | (simp only [Knx]; omega) | (apply Nat.le_antisymm <;> simp only [Knx] <;> omega) | fail) only [wpy, fD, reduceLE, reduceLT, reduceLeDiff, UInt8.reduceToNat, ↓reduceIte, reduceEqDiff, reduceAdd, reduceCtorEq, reduceToNat, Tryz.f41, e0, e3, e4, k0, u1, w1, hgb, Nat.add_sub_cancel, p0, z0]
        refine callF_pure (rsgn_spec hS (gw ws j) [40] _) ?_
        rintro v h3 hx3 rfl
        have gb3 : h3.get b = some (.cells c 43 fl) := by rw [hx3.2 b hbn]; exact hgb
        by_cases c1 : isS (gw ws j) [[40]]
        · simp +contextual (disch := first | (simp only [fr]; done) | omega | (simp only [Knx]; omega) | (apply Nat.le_antisymm <;> simp only [Knx] <;> omega) | fail) only [wpy, fD, reduceLE, reduceLT, reduceLeDiff, UInt8.reduceToNat, ↓reduceIte, reduceEqDiff, reduceAdd, reduceCtorEq, reduceToNat, Tryz.f41, e0, e3, e4, k0, c1, Nat.add_sub_cancel, p0, z0]
          exact hx3
        · simp +contextual (disch := first | (simp only [fr]; done) | omega | (simp only [Knx]; omega) | (apply Nat.le_antisymm <;> simp only [Knx] <;> omega) | fail) only [wpy, fD, reduceLE, reduceLT, reduceLeDiff, UInt8.reduceToNat, ↓reduceIte, reduceEqDiff, reduceAdd, reduceCtorEq, reduceToNat, Tryz.f41, e0, e3, e4, k0, u1, w1, gb3, c1, Nat.add_sub_cancel, p0, z0]
          refine callF_pure (rsgn_spec hS (gw ws j) [44] _) ?_
          rintro v h5 hx5 rfl
          have hX5 : Ext h' h5 := hx3.trans hx5
          have gb5 : h5.get b = some (.cells c 43 fl) := by rw [hX5.2 b hbn]; exact hgb
          by_cases c2 : isS (gw ws j) [[44]]
          · simp +contextual (disch := first | (simp only [fr]; done) | omega | (simp only [Knx]; omega) | (apply Nat.le_antisymm <;> simp only [Knx] <;> omega) | fail) only [wpy, fD, reduceLE, reduceLT, reduceLeDiff, UInt8.reduceToNat, ↓reduceIte, reduceEqDiff, reduceAdd, reduceCtorEq, reduceToNat, Tryz.f41, e0, e3, e4, k0, c1, c2, Nat.add_sub_cancel, p0, z0]
            exact hX5
          · simp +contextual (disch := first | (simp only [fr]; done) | omega | (simp only [Knx]; omega) | (apply Nat.le_antisymm <;> simp only [Knx] <;> omega) | fail) only [wpy, fD, reduceLE, reduceLT, reduceLeDiff, UInt8.reduceToNat, ↓reduceIte, reduceEqDiff, reduceAdd, reduceCtorEq, reduceToNat, Tryz.f41, e0, e3, e4, k0, u1, w1, gb5, c1, c2, Nat.add_sub_cancel, p0, z0]
            refine callF_pure (rsgn_spec hS (gw ws j) [61] _) ?_
            rintro v h6 hx6 rfl
            simp +contextual (disch := first | (simp only [fr]; done) | omega | (simp only [Knx]; omega) | (apply Nat.le_antisymm <;> simp only [Knx] <;> omega) | fail) only [wpy, fD, reduceLE, reduceLT, reduceLeDiff, UInt8.reduceToNat, ↓reduceIte, reduceEqDiff, reduceAdd, reduceCtorEq, reduceToNat, Tryz.f41, e0, e3, e4, c1, c2, z0]
            exact hX5.trans hx6
    rintro env2 h2 ⟨f0, f3, f4, f5, hx2⟩
    have gb2 : h2.get b = some (.cells c 43 fl) := by rw [hx2.2 b hbn]; exact hgb
    have hend : sg1 ws i = [gw ws i] → ∀ hk : H, Ext h' hk → ∀ v h4, Wx.Acc h.nx h4 v (wcells (sigN ws i ++ [gw ws i])) 43 3 → hk.nx < h4.nx → (∀ k, k < h.nx → h4.get k = hk.get k) → ∃ m', m' < ws.length - i ∧ ∃ (i' : Nat) (l : V), m' = ws.length - i' ∧ i' ≤ ws.length ∧ v = l ∧ i + 1 = i' ∧ Ext h h4 ∧ Wx.Acc h.nx h4 l (wcells (sigN ws i')) 43 3 := fun hw hk hXk v h4 ha4 hn4 hf4 => ⟨_, by omega, i + 1, v, rfl, by omega, rfl, rfl, ⟨by have := hXk.1; omega, fun k hk => by rw [hf4 k hk, hXk.2 k (by omega), hx.2 k hk]⟩, by rw [hst, hw]; exact ha4⟩
    have hskip : sg1 ws i = [] → ∀ hk : H, Ext h' hk → ∃ m', m' < ws.length - i ∧ ∃ (i' : Nat) (l' : V), m' = ws.length - i' ∧ i' ≤ ws.length ∧ l = l' ∧ i + 1 = i' ∧ Ext h hk ∧ Wx.Acc h.nx hk l' (wcells (sigN ws i')) 43 3 := fun hw hk hXk => ⟨_, by omega, i + 1, l, rfl, by omega, rfl, rfl, hx.trans hXk, by rw [hst, hw, List.append_nil]; exact hl.ext hXk⟩
    have hkeep : ¬ ((isS (gw ws i) [[45]] ∨ isS (gw ws i) [[43]]) ∧ i + 1 < ws.length ∧ (gw ws (i + 1)).kind = 8 ∧ (i = 0 ∨ isS (gw ws (i - 1)) [[40], [44], [61]])) → sg1 ws i = [gw ws i] := fun q => by rw [sg1, if_neg (by rw [isS_two]; exact q)]
    have hdrop : ((isS (gw ws i) [[45]] ∨ isS (gw ws i) [[43]]) ∧ i + 1 < ws.length ∧ (gw ws (i + 1)).kind = 8 ∧ (i = 0 ∨ isS (gw ws (i - 1)) [[40], [44], [61]])) → sg1 ws i = [] := fun q => by rw [sg1, if_pos (by rw [isS_two]; exact q)]
    generalize hA : (i = 0 ∨ isS (gw ws (i - 1)) [[40], [44], [61]]) = A at *
    by_cases cA : A
    · by_cases k1 : i + 1 < ws.length
      · have u1 := hw1 (i + 1) k1
        have w1 := row_kind (hw2 (i + 1) k1)
        by_cases c8 : (gw ws (i + 1)).kind = 8
        · simp +contextual (disch := first | (simp only [fr]; done) | omega | (simp only [Knx]; omega) | (apply Nat.le_antisymm <;> simp only [Knx] <;> omega) | fail) only [wpy, fD, reduceLE, reduceLT, reduceLeDiff, UInt8.reduceToNat, ↓reduceIte, reduceEqDiff, reduceAdd, reduceCtorEq, reduceToNat, Tryz.f41, f0, f3, f4, f5, cA, k1, c8, gb2, hi2, u0, w0, u1, w1]
          refine callF_pure (rsgn_spec hS (gw ws i) [45] _) ?_
          rintro v h3 hx3 rfl
          have hX3 := hx2.trans hx3
          have gb3 : h3.get b = some (.cells c 43 fl) := by rw [hX3.2 b hbn]; exact hgb
          by_cases c1 : isS (gw ws i) [[45]]
          · simp +contextual (disch := first | (simp only [fr]; done) | omega | (simp only [Knx]; omega) | (apply Nat.le_antisymm <;> simp only [Knx] <;> omega) | fail) only [wpy, fD, reduceLE, reduceLT, reduceLeDiff, UInt8.reduceToNat, ↓reduceIte, reduceEqDiff, reduceAdd, reduceCtorEq, reduceToNat, Tryz.f41, f0, f3, f4, f5, cA, k1, c8, c1]
            exact hskip (hdrop ⟨.inl c1, k1, c8, cA⟩) _ hX3
          · simp +contextual (disch := first | (simp only [fr]; done) | omega | (simp only [Knx]; omega) | (apply Nat.le_antisymm <;> simp only [Knx] <;> omega) | fail) only [wpy, fD, reduceLE, reduceLT, reduceLeDiff, UInt8.reduceToNat, ↓reduceIte, reduceEqDiff, reduceAdd, reduceCtorEq, reduceToNat, Tryz.f41, f0, f3, f4, f5, cA, k1, c8, c1, gb3, hi2, u0, w0]
            refine callF_pure (rsgn_spec hS (gw ws i) [43] _) ?_
            rintro v h5 hx5 rfl
            have hX5 := hX3.trans hx5
            have gb5 : h5.get b = some (.cells c 43 fl) := by rw [hX5.2 b hbn]; exact hgb
            by_cases c2 : isS (gw ws i) [[43]]
            · simp +contextual (disch := first | (simp only [fr]; done) | omega | (simp only [Knx]; omega) | (apply Nat.le_antisymm <;> simp only [Knx] <;> omega) | fail) only [wpy, fD, reduceLE, reduceLT, reduceLeDiff, UInt8.reduceToNat, ↓reduceIte, reduceEqDiff, reduceAdd, reduceCtorEq, reduceToNat, Tryz.f41, f0, f3, f4, f5, cA, k1, c8, c1, c2]
              exact hskip (hdrop ⟨.inr c2, k1, c8, cA⟩) _ hX5
            · have hv := hkeep fun q => q.1.elim c1 c2
              simp +contextual (disch := first | (simp only [fr]; done) | omega | (simp only [Knx]; omega) | (apply Nat.le_antisymm <;> simp only [Knx] <;> omega) | fail) only [wpy, fD, reduceLE, reduceLT, reduceLeDiff, UInt8.reduceToNat, ↓reduceIte, reduceEqDiff, reduceAdd, reduceCtorEq, reduceToNat, Tryz.f41, f0, f3, f4, f5, cA, k1, c8, c1, c2, gb5, hi2, u0, w0]
              refine app_word (n0 := h.nx) (l := l) (acc := sigN ws i) (gw ws i) (by simp +contextual (disch := first | (simp only [fr]; done) | omega | (simp only [Knx]; omega) | (apply Nat.le_antisymm <;> simp only [Knx] <;> omega) | fail) only [wpy, fD, reduceLE, reduceLT, reduceLeDiff, UInt8.reduceToNat, ↓reduceIte, reduceEqDiff, reduceAdd, reduceCtorEq, reduceToNat]) (by simp +contextual (disch := first | (simp only [fr]; done) | omega | (simp only [Knx]; omega) | (apply Nat.le_antisymm <;> simp only [Knx] <;> omega) | fail) only [wpy, fD, reduceLE, reduceLT, reduceLeDiff, UInt8.reduceToNat, ↓reduceIte, reduceEqDiff, reduceAdd, reduceCtorEq, reduceToNat]) (hl.ext hX5) hacc (fun k hk => by rw [fresh_def]; exact .inl hk) (Nat.le_trans hxn (hX5).1) ?_
              intro v h4 L ha4 hn4 hf4
              have hv1 := ha4.cell.1
              have hv2 := ha4.cell.2
              simp +contextual (disch := first | (simp only [fr]; done) | omega | (simp only [Knx]; omega) | (apply Nat.le_antisymm <;> simp only [Knx] <;> omega) | fail) only [wpy, fD, reduceLE, reduceLT, reduceLeDiff, UInt8.reduceToNat, ↓reduceIte, reduceEqDiff, reduceAdd, reduceCtorEq, reduceToNat, Tryz.f41, f0, f3, f4, hv1, hv2]
              exact hend hv _ hX5 v h4 ha4 hn4 hf4
        · have hv := hkeep fun q => c8 q.2.2.1
          simp +contextual (disch := first | (simp only [fr]; done) | omega | (simp only [Knx]; omega) | (apply Nat.le_antisymm <;> simp only [Knx] <;> omega) | fail) only [wpy, fD, reduceLE, reduceLT, reduceLeDiff, UInt8.reduceToNat, ↓reduceIte, reduceEqDiff, reduceAdd, reduceCtorEq, reduceToNat, Tryz.f41, f0, f3, f4, f5, cA, k1, c8, gb2, hi2, u0, w0, u1, w1]
          refine app_word (n0 := h.nx) (l := l) (acc := sigN ws i) (gw ws i) (by simp +contextual (disch := first | (simp only [fr]; done) | omega | (simp only [Knx]; omega) | (apply Nat.le_antisymm <;> simp only [Knx] <;> omega) | fail) only [wpy, fD, reduceLE, reduceLT, reduceLeDiff, UInt8.reduceToNat, ↓reduceIte, reduceEqDiff, reduceAdd, reduceCtorEq, reduceToNat]) (by simp +contextual (disch := first | (simp only [fr]; done) | omega | (simp only [Knx]; omega) | (apply Nat.le_antisymm <;> simp only [Knx] <;> omega) | fail) only [wpy, fD, reduceLE, reduceLT, reduceLeDiff, UInt8.reduceToNat, ↓reduceIte, reduceEqDiff, reduceAdd, reduceCtorEq, reduceToNat]) (hl.ext hx2) hacc (fun k hk => by rw [fresh_def]; exact .inl hk) (Nat.le_trans hxn (hx2).1) ?_
          intro v h4 L ha4 hn4 hf4
          have hv1 := ha4.cell.1
          have hv2 := ha4.cell.2
          simp +contextual (disch := first | (simp only [fr]; done) | omega | (simp only [Knx]; omega) | (apply Nat.le_antisymm <;> simp only [Knx] <;> omega) | fail) only [wpy, fD, reduceLE, reduceLT, reduceLeDiff, UInt8.reduceToNat, ↓reduceIte, reduceEqDiff, reduceAdd, reduceCtorEq, reduceToNat, Tryz.f41, f0, f3, f4, hv1, hv2]
          exact hend hv _ hx2 v h4 ha4 hn4 hf4
      · have hv := hkeep fun q => k1 q.2.1
        simp +contextual (disch := first | (simp only [fr]; done) | omega | (simp only [Knx]; omega) | (apply Nat.le_antisymm <;> simp only [Knx] <;> omega) | fail) only [wpy, fD, reduceLE, reduceLT, reduceLeDiff, UInt8.reduceToNat, ↓reduceIte, reduceEqDiff, reduceAdd, reduceCtorEq, reduceToNat, Tryz.f41, f0, f3, f4, f5, cA, k1, gb2, hi2, u0, w0]
        refine app_word (n0 := h.nx) (l := l) (acc := sigN ws i) (gw ws i) (by simp +contextual (disch := first | (simp only [fr]; done) | omega | (simp only [Knx]; omega) | (apply Nat.le_antisymm <;> simp only [Knx] <;> omega) | fail) only [wpy, fD, reduceLE, reduceLT, reduceLeDiff, UInt8.reduceToNat, ↓reduceIte, reduceEqDiff, reduceAdd, reduceCtorEq, reduceToNat]) (by simp +contextual (disch := first | (simp only [fr]; done) | omega | (simp only [Knx]; omega) | (apply Nat.le_antisymm <;> simp only [Knx] <;> omega) | fail) only [wpy, fD, reduceLE, reduceLT, reduceLeDiff, UInt8.reduceToNat, ↓reduceIte, reduceEqDiff, reduceAdd, reduceCtorEq, reduceToNat]) (hl.ext hx2) hacc (fun k hk => by rw [fresh_def]; exact .inl hk) (Nat.le_trans hxn (hx2).1) ?_
        intro v h4 L ha4 hn4 hf4
        have hv1 := ha4.cell.1
        have hv2 := ha4.cell.2
        simp +contextual (disch := first | (simp only [fr]; done) | omega | (simp only [Knx]; omega) | (apply Nat.le_antisymm <;> simp only [Knx] <;> omega) | fail) only [wpy, fD, reduceLE, reduceLT, reduceLeDiff, UInt8.reduceToNat, ↓reduceIte, reduceEqDiff, reduceAdd, reduceCtorEq, reduceToNat, Tryz.f41, f0, f3, f4, hv1, hv2]
        exact hend hv _ hx2 v h4 ha4 hn4 hf4
    · have hv := hkeep fun q => cA q.2.2.2
      simp +contextual (disch := first | (simp only [fr]; done) | omega | (simp only [Knx]; omega) | (apply Nat.le_antisymm <;> simp only [Knx] <;> omega) | fail) only [wpy, fD, reduceLE, reduceLT, reduceLeDiff, UInt8.reduceToNat, ↓reduceIte, reduceEqDiff, reduceAdd, reduceCtorEq, reduceToNat, Tryz.f41, f0, f3, f4, f5, cA, gb2, hi2, u0, w0]
      refine app_word (n0 := h.nx) (l := l) (acc := sigN ws i) (gw ws i) (by simp +contextual (disch := first | (simp only [fr]; done) | omega | (simp only [Knx]; omega) | (apply Nat.le_antisymm <;> simp only [Knx] <;> omega) | fail) only [wpy, fD, reduceLE, reduceLT, reduceLeDiff, UInt8.reduceToNat, ↓reduceIte, reduceEqDiff, reduceAdd, reduceCtorEq, reduceToNat]) (by simp +contextual (disch := first | (simp only [fr]; done) | omega | (simp only [Knx]; omega) | (apply Nat.le_antisymm <;> simp only [Knx] <;> omega) | fail) only [wpy, fD, reduceLE, reduceLT, reduceLeDiff, UInt8.reduceToNat, ↓reduceIte, reduceEqDiff, reduceAdd, reduceCtorEq, reduceToNat]) (hl.ext hx2) hacc (fun k hk => by rw [fresh_def]; exact .inl hk) (Nat.le_trans hxn (hx2).1) ?_
      intro v h4 L ha4 hn4 hf4
      have hv1 := ha4.cell.1
      have hv2 := ha4.cell.2
      simp +contextual (disch := first | (simp only [fr]; done) | omega | (simp only [Knx]; omega) | (apply Nat.le_antisymm <;> simp only [Knx] <;> omega) | fail) only [wpy, fD, reduceLE, reduceLT, reduceLeDiff, UInt8.reduceToNat, ↓reduceIte, reduceEqDiff, reduceAdd, reduceCtorEq, reduceToNat, Tryz.f41, f0, f3, f4, hv1, hv2]
      exact hend hv _ hx2 v h4 ha4 hn4 hf4
  · have hle : i = ws.length := by omega
    subst hle
    simp +contextual (disch := first | (simp only [fr]; done) | omega | (simp only [Knx]; omega) | (apply Nat.le_antisymm <;> simp only [Knx] <;> omega) | exact dok (by kernel_rfl)) only [draw_calm, draw_calmA, wpy, fD, reduceLE, reduceLT, reduceLeDiff, UInt8.reduceToNat, ↓reduceIte, reduceEqDiff, reduceAdd, reduceCtorEq, reduceToNat, Tryz.f41, e0, e3, e4, hi2, a1]
    first | exact ⟨hx, hl⟩ | trace_state
end
end Go.Proofs.YtkibhdbmamfjcaaGreatDoor
set_option maxHeartbeats 1000000
set_option linter.unusedSimpArgs false
set_option linter.unusedVariables false
set_option linter.unusedSectionVars false
set_option linter.defProp false
set_option maxRecDepth 10000
namespace Go.Proofs.YtkibhdbmamfjcaaGreatDoor
open Int (reduceLE reduceLT reduceToNat)
open Nat (reduceLeDiff reduceEqDiff reduceAdd)
open Go.Proofs Go.Lx Go.Wx Go.IntWalk
noncomputable section
def rskipT : Nat → List WD → List WD
  | 0, l => l
  | f + 1, l => if 1 < l.length ∧ isS (gw l 0) [[44]] ∧ rowG (l.drop 1) ≠ 0 then rskipT f (l.drop (1 + rowG (l.drop 1))) else l
def rlistsT : Nat → List WD → List WD
  | 0, _ => []
  | f + 1, l => if l = [] then [] else if rowG l = 0 then gw l 0 :: rlistsT f (l.drop 1) else l.take (rowG l) ++ rlistsT f (rskipT l.length (l.drop (rowG l)))
theorem rskipT_stop {g : Nat} {l : List WD} (h : ¬ (1 < l.length ∧ isS (gw l 0) [[44]] ∧ rowG (l.drop 1) ≠ 0)) : rskipT g l = l := by
  cases g with
  | zero => rfl
  | succ g => rw [rskipT, if_neg h]

variable {S : Set0} (hS : StdR S)
include hS
set_option maxHeartbeats 2000000 in
theorem rrow_spec (lv : V) (ws : List WD) (a : Nat) (h : H) (ha : Wds h lv ws) (hwl : ws.length < 2 ^ 27) (h3 : a < ws.length) : Pure S.cfg 79 [lv, .int .i64 a] h fun v _ => v = .int .i64 (a + rowG (ws.drop a) : Nat) := by
  refine into Tryz.f79 _ Tryz.func79 (hS.ownR _ (by decide)) rfl rfl (by kernel_rfl) (by kernel_rfl) ?_
  have a1 := ha.len
  obtain ⟨b, o, m, c, fl, rfl, hm, hb, hg, hc1, hc2, -⟩ := ha.opened (by omega)
  have u0 := hc1 a h3
  have w0 := hc2 a h3
  have hd := drop_gw h3
  simp +contextual (disch := first | (simp only [fr]; done) | omega | (simp only [Knx]; omega) | (apply Nat.le_antisymm <;> simp only [Knx] <;> omega) | fail) only [wpy, fD, reduceLE, reduceLT, reduceLeDiff, UInt8.reduceToNat, ↓reduceIte, reduceEqDiff, reduceAdd, reduceCtorEq, reduceToNat, Tryz.f79, a1, h3, hg, u0, w0]
  refine callF_pure (rsgn_spec hS (gw ws a) [40] _) ?_
  rintro v h1 hX1 rfl
  by_cases c0 : isS (gw ws a) [[40]]
  · have hrow : rowG (ws.drop a) = rowT (ws.drop (a + 1)) 1 := by rw [hd, rowG, if_pos c0]
    simp +contextual (disch := first | (simp only [fr]; done) | omega | (simp only [Knx]; omega) | (apply Nat.le_antisymm <;> simp only [Knx] <;> omega) | fail) only [wpy, fD, reduceLE, reduceLT, reduceLeDiff, UInt8.reduceToNat, ↓reduceIte, reduceEqDiff, reduceAdd, reduceCtorEq, reduceToNat, Tryz.f79, a1, h3, c0]
    refine run_loop (fun k env h' => ∃ (i : Nat), k = ws.length + 2 - i ∧ a < i ∧ i < ws.length + 2 ∧ env 0 = .slice b o ws.length m ∧ env 1 = .int .i64 a ∧ env 5 = .int .i64 i ∧ Ext h h' ∧ rowG (ws.drop a) = rowT (ws.drop i) (i - a)) (ws.length + 2 - (a + 1)) ⟨a + 1, ?_⟩ ?_
    · simp +contextual (disch := first | (simp only [fr]; done) | omega | (simp only [Knx]; omega) | (apply Nat.le_antisymm <;> simp only [Knx] <;> omega) | fail) only [wpy, fD, reduceLE, reduceLT, reduceLeDiff, UInt8.reduceToNat, ↓reduceIte, reduceEqDiff, reduceAdd, reduceCtorEq, reduceToNat]
      exact ⟨by omega, by omega, hX1, by rw [hrow, Nat.add_sub_cancel_left]⟩
    rintro k env h' ⟨i, rfl, hai, hil, e0, e1, e5, hx, hr⟩
    have hgh : h'.get b = some (.cells c 43 fl) := by rw [hx.2 b hb]; exact hg
    by_cases k0 : i < ws.length
    · have u0 := hc1 i k0
      have w0 := row_kind (hc2 i k0)
      have hd0 := drop_gw k0
      by_cases c1 : (gw ws i).kind = 8
      · by_cases k1 : i + 1 < ws.length
        · have u1 := hc1 (i + 1) k1
          have w1 := hc2 (i + 1) k1
          have hd1 := drop_gw k1
          have k1' : ¬ ws.length ≤ i + 1 := by omega
          rw [hd0, hd1, rowT, if_pos c1] at hr
          simp +contextual (disch := first | (simp only [fr]; done) | omega | (simp only [Knx]; omega) | (apply Nat.le_antisymm <;> simp only [Knx] <;> omega) | fail) only [wpy, fD, reduceLE, reduceLT, reduceLeDiff, UInt8.reduceToNat, ↓reduceIte, reduceEqDiff, reduceAdd, reduceCtorEq, reduceToNat, Tryz.f79, e0, e1, e5, k0, hgh, u0, w0, c1, k1, u1, w1]
          refine callF_pure (rsgn_spec hS (gw ws (i + 1)) [41] _) ?_
          rintro v h3 hx3 rfl
          have hX3 : Ext h h3 := hx.trans hx3
          have hg3 : h3.get b = some (.cells c 43 fl) := by rw [hX3.2 b hb]; exact hg
          by_cases c2 : isS (gw ws (i + 1)) [[41]]
          · rw [if_pos c2] at hr
            simp +contextual (disch := first | (simp only [fr]; done) | omega | (simp only [Knx]; omega) | (apply Nat.le_antisymm <;> simp only [Knx] <;> omega) | fail) only [wpy, fD, reduceLE, reduceLT, reduceLeDiff, UInt8.reduceToNat, ↓reduceIte, reduceEqDiff, reduceAdd, reduceCtorEq, reduceToNat, Tryz.f79, e0, e1, e5, k0, c1, k1, c2]
            exact ⟨hX3, by rw [hr]; omega⟩
          · rw [if_neg c2] at hr
            simp +contextual (disch := first | (simp only [fr]; done) | omega | (simp only [Knx]; omega) | (apply Nat.le_antisymm <;> simp only [Knx] <;> omega) | fail) only [wpy, fD, reduceLE, reduceLT, reduceLeDiff, UInt8.reduceToNat, ↓reduceIte, reduceEqDiff, reduceAdd, reduceCtorEq, reduceToNat, Tryz.f79, e0, e1, e5, k0, c1, k1, k1', c2, hg3, u1, w1]
            refine callF_pure (rsgn_spec hS (gw ws (i + 1)) [44] _) ?_
            rintro v h4 hx4 rfl
            have hX4 : Ext h h4 := hX3.trans hx4
            by_cases c3 : isS (gw ws (i + 1)) [[44]]
            · rw [if_pos c3] at hr
              simp +contextual (disch := first | (simp only [fr]; done) | omega | (simp only [Knx]; omega) | (apply Nat.le_antisymm <;> simp only [Knx] <;> omega) | fail) only [wpy, fD, reduceLE, reduceLT, reduceLeDiff, UInt8.reduceToNat, ↓reduceIte, reduceEqDiff, reduceAdd, reduceCtorEq, reduceToNat, Tryz.f79, e0, e1, e5, k0, c1, k1, k1', c2, c3]
              exact ⟨_, by omega, i + 2, rfl, by omega, by omega, rfl, hX4, by rw [hr, show i + 2 - a = i - a + 2 by omega]⟩
            · rw [if_neg c3] at hr
              simp +contextual (disch := first | (simp only [fr]; done) | omega | (simp only [Knx]; omega) | (apply Nat.le_antisymm <;> simp only [Knx] <;> omega) | fail) only [wpy, fD, reduceLE, reduceLT, reduceLeDiff, UInt8.reduceToNat, ↓reduceIte, reduceEqDiff, reduceAdd, reduceCtorEq, reduceToNat, Tryz.f79, e0, e1, e5, k0, c1, k1, k1', c2, c3]
              exact ⟨hX4, by rw [hr]; omega⟩
        · have k1' : ws.length ≤ i + 1 := by omega
          have hdn : ws.drop (i + 1) = [] := List.drop_eq_nil_of_le (by omega)
          rw [hd0, hdn] at hr
          have hr0 : rowG (ws.drop a) = 0 := hr
          simp +contextual (disch := first | (simp only [fr]; done) | omega | (simp only [Knx]; omega) | (apply Nat.le_antisymm <;> simp only [Knx] <;> omega) | fail) only [wpy, fD, reduceLE, reduceLT, reduceLeDiff, UInt8.reduceToNat, ↓reduceIte, reduceEqDiff, reduceAdd, reduceCtorEq, reduceToNat, Tryz.f79, e0, e1, e5, k0, hgh, u0, w0, c1, k1, k1', hr0]
          exact hx
      · have hr0 : rowG (ws.drop a) = 0 := by
          rw [hr, hd0]
          cases hdr : ws.drop (i + 1) with
          | nil => rfl
          | cons s r => rw [rowT, if_neg c1]
        simp +contextual (disch := first | (simp only [fr]; done) | omega | (simp only [Knx]; omega) | (apply Nat.le_antisymm <;> simp only [Knx] <;> omega) | fail) only [wpy, fD, reduceLE, reduceLT, reduceLeDiff, UInt8.reduceToNat, ↓reduceIte, reduceEqDiff, reduceAdd, reduceCtorEq, reduceToNat, Tryz.f79, e0, e1, e5, k0, hgh, u0, w0, c1, hr0]
        exact hx
    · have hr0 : rowG (ws.drop a) = 0 := by rw [hr, List.drop_eq_nil_of_le (by omega)]; rfl
      simp +contextual (disch := first | (simp only [fr]; done) | omega | (simp only [Knx]; omega) | (apply Nat.le_antisymm <;> simp only [Knx] <;> omega) | fail) only [wpy, fD, reduceLE, reduceLT, reduceLeDiff, UInt8.reduceToNat, ↓reduceIte, reduceEqDiff, reduceAdd, reduceCtorEq, reduceToNat, Tryz.f79, e0, e1, e5, k0, hr0]
      exact hx
  · have hr0 : rowG (ws.drop a) = 0 := by rw [hd, rowG, if_neg c0]
    simp +contextual (disch := first | (simp only [fr]; done) | omega | (simp only [Knx]; omega) | (apply Nat.le_antisymm <;> simp only [Knx] <;> omega) | fail) only [wpy, fD, reduceLE, reduceLT, reduceLeDiff, UInt8.reduceToNat, ↓reduceIte, reduceEqDiff, reduceAdd, reduceCtorEq, reduceToNat, Tryz.f79, a1, h3, c0, hr0]
    exact hX1
set_option maxHeartbeats 2000000 in
theorem rrows_spec (lv : V) (ws : List WD) (h : H) (ha : Wds h lv ws) (hwl : ws.length < 2 ^ 27) : Pure S.cfg 40 [lv] h fun v h' => Wx.Acc h.nx h' v (wcells (rowsF ws)) 43 3 := by
  refine into Tryz.f40 _ Tryz.func40 (hS.ownR _ (by decide)) rfl rfl (by kernel_rfl) (by kernel_rfl) ?_
  have a1 := ha.len
  simp +contextual (disch := first | (simp only [fr]; done) | omega | (simp only [Knx]; omega) | (apply Nat.le_antisymm <;> simp only [Knx] <;> omega) | fail) only [wpy, fD, reduceLE, reduceLT, reduceLeDiff, UInt8.reduceToNat, ↓reduceIte, reduceEqDiff, reduceAdd, reduceCtorEq, reduceToNat, Tryz.f40, a1]
  refine run_loop (fun k env h' => ∃ (i f : Nat) (l : V) (acc : List WD), k = ws.length - i ∧ i ≤ ws.length ∧ env 0 = lv ∧ env 3 = l ∧ env 4 = .int .i64 i ∧ acc.length ≤ i ∧ ws.length < i + f ∧ rowsF ws = acc ++ rowsT f (ws.drop i) ∧ Ext h h' ∧ Wx.Acc h.nx h' l (wcells acc) 43 3) ws.length ⟨0, ws.length + 1, .nilslice, [], ?_⟩ ?_
  · simp +contextual (disch := first | (simp only [fr]; done) | omega | (simp only [Knx]; omega) | (apply Nat.le_antisymm <;> simp only [Knx] <;> omega) | fail) only [wpy, fD, reduceLE, reduceLT, reduceLeDiff, UInt8.reduceToNat, ↓reduceIte, reduceEqDiff, reduceAdd, reduceCtorEq, reduceToNat]
    exact ⟨by simp, by omega, rfl, Ext.refl _, .inl ⟨rfl, rfl⟩⟩
  rintro k env h' ⟨i, f, l, acc, rfl, hi, e0, e3, e4, hacc, hf, hr, hx, hl⟩
  have hxn := hx.1
  have hc1 := hl.cell.1
  have hc2 := hl.cell.2
  obtain ⟨f, rfl⟩ : ∃ g, f = g + 1 := ⟨f - 1, by omega⟩
  by_cases hi2 : i < ws.length
  · rw [rowsT, if_neg (wdrop_ne hi2)] at hr
    have hah := ha.ext hx
    simp +contextual (disch := first | (simp only [fr]; done) | omega | (simp only [Knx]; omega) | (apply Nat.le_antisymm <;> simp only [Knx] <;> omega) | fail) only [wpy, fD, reduceLE, reduceLT, reduceLeDiff, UInt8.reduceToNat, ↓reduceIte, reduceEqDiff, reduceAdd, reduceCtorEq, reduceToNat, Tryz.f40, e0, e3, e4, hi2, a1]
    refine callF_pure (rrow_spec hS lv ws i h' hah hwl hi2) ?_
    rintro v h1 hx1 rfl
    have hX1 : Ext h h1 := hx.trans hx1
    have hle := rowG_le (ws.drop i)
    rw [List.length_drop] at hle
    obtain ⟨b, o, m, c, fl, rfl, hm, hb, hg, hw1, hw2, -⟩ := (ha.ext hX1).opened (by omega)
    have u0 := hw1 i hi2
    have w0 := hw2 i hi2
    by_cases hz : rowG (ws.drop i) = 0
    · rw [if_pos hz, gw_drop, Nat.add_zero, List.drop_drop] at hr
      simp +contextual (disch := first | (simp only [fr]; done) | omega | (simp only [Knx]; omega) | (apply Nat.le_antisymm <;> simp only [Knx] <;> omega) | fail) only [wpy, fD, reduceLE, reduceLT, reduceLeDiff, UInt8.reduceToNat, ↓reduceIte, reduceEqDiff, reduceAdd, reduceCtorEq, reduceToNat, Tryz.f40, e0, e3, e4, hi2, hz, hg, u0, w0, eq_self']
      refine app_word (n0 := h.nx) (l := l) (acc := acc) (gw ws i) (by simp +contextual (disch := first | (simp only [fr]; done) | omega | (simp only [Knx]; omega) | (apply Nat.le_antisymm <;> simp only [Knx] <;> omega) | fail) only [wpy, fD, reduceLE, reduceLT, reduceLeDiff, UInt8.reduceToNat, ↓reduceIte, reduceEqDiff, reduceAdd, reduceCtorEq, reduceToNat]) (by simp +contextual (disch := first | (simp only [fr]; done) | omega | (simp only [Knx]; omega) | (apply Nat.le_antisymm <;> simp only [Knx] <;> omega) | fail) only [wpy, fD, reduceLE, reduceLT, reduceLeDiff, UInt8.reduceToNat, ↓reduceIte, reduceEqDiff, reduceAdd, reduceCtorEq, reduceToNat]) (hl.ext hx1) (by omega) (fun k hk => by rw [fresh_def]; exact .inl hk) hX1.1 ?_
      intro v h4 L ha4 hn4 hf4
      have hv1 := ha4.cell.1
      have hv2 := ha4.cell.2
      simp +contextual (disch := first | (simp only [fr]; done) | omega | (simp only [Knx]; omega) | (apply Nat.le_antisymm <;> simp only [Knx] <;> omega) | fail) only [wpy, fD, reduceLE, reduceLT, reduceLeDiff, UInt8.reduceToNat, ↓reduceIte, reduceEqDiff, reduceAdd, reduceCtorEq, reduceToNat, Tryz.f40, e0, e3, e4, hi2, hv1, hv2]
      exact ⟨_, by omega, i + 1, f, v, acc ++ [gw ws i], rfl, by omega, rfl, rfl, by rw [List.length_append]; simp; omega, by omega, by rw [hr]; simp, ext_of hX1 hn4 hf4, ha4⟩
    · generalize hn : rowG (ws.drop i) = n at *
      rw [if_neg hz, gw_drop, gw_drop, gw_drop, Nat.add_zero, List.drop_drop] at hr
      have hn3 : 3 ≤ n := by omega
      have k1 : i + 1 < ws.length := by omega
      have k2 : i + (n - 1) < ws.length := by omega
      have u1 := hw1 (i + 1) k1
      have w1 := hw2 (i + 1) k1
      have u2 := hw1 (i + (n - 1)) k2
      have w2 := hw2 (i + (n - 1)) k2
      have hne : (i + n = i) = False := by simp; omega
      have e9 : IntKind.i64.wrap (((i + n : Nat) : Int) - 1) = ((i + (n - 1) : Nat) : Int) := by
        have := sub_i (i + n) 1 (by omega) (by omega)
        rw [show i + n - 1 = i + (n - 1) by omega] at this
        exact this
      simp +contextual (disch := first | (simp only [fr]; done) | omega | (simp only [Knx]; omega) | (apply Nat.le_antisymm <;> simp only [Knx] <;> omega) | fail) only [wpy, fD, reduceLE, reduceLT, reduceLeDiff, UInt8.reduceToNat, ↓reduceIte, reduceEqDiff, reduceAdd, reduceCtorEq, reduceToNat, Tryz.f40, e0, e3, e4, hi2, hne]
      refine draw_by [] (by kernel_rfl) ?_
      simp +contextual (disch := first | (simp only [fr]; done) | omega | (simp only [Knx]; omega) | (apply Nat.le_antisymm <;> simp only [Knx] <;> omega) | fail) only [wpy, fD, reduceLE, reduceLT, reduceLeDiff, UInt8.reduceToNat, ↓reduceIte, reduceEqDiff, reduceAdd, reduceCtorEq, reduceToNat, Tryz.f40, e0, e3, e4, hi2, hg, u0, w0, u1, w1, u2, w2, k1, k2, e9]
      refine append_new (sv := l) (n0 := h.nx) (by simp +contextual (disch := first | (simp only [fr]; done) | omega | (simp only [Knx]; omega) | (apply Nat.le_antisymm <;> simp only [Knx] <;> omega) | fail) only [wpy, fD, reduceLE, reduceLT, reduceLeDiff, UInt8.reduceToNat, ↓reduceIte, reduceEqDiff, reduceAdd, reduceCtorEq, reduceToNat]) ap30 ⟨.slice 43, by kernel_rfl, rfl⟩ (hl.ext hx1) (by simp +contextual (disch := first | (simp only [fr]; done) | omega | (simp only [Knx]; omega) | (apply Nat.le_antisymm <;> simp only [Knx] <;> omega) | fail) only [wpy, fD, reduceLE, reduceLT, reduceLeDiff, UInt8.reduceToNat, ↓reduceIte, reduceEqDiff, reduceAdd, reduceCtorEq, reduceToNat]) (n := 3) (by decide) rfl rfl ?_ (by decide) (fun k hk => by rw [fresh_def]; exact .inl hk) hX1.1 ?_
      · rw [wcells_len]
        show _ + 9 ≤ _
        omega
      intro v h4 L ha4 hn4 _ hf4 _
      have hv1 := ha4.cell.1
      have hv2 := ha4.cell.2
      simp +contextual (disch := first | (simp only [fr]; done) | omega | (simp only [Knx]; omega) | (apply Nat.le_antisymm <;> simp only [Knx] <;> omega) | fail) only [wpy, fD, reduceLE, reduceLT, reduceLeDiff, UInt8.reduceToNat, ↓reduceIte, reduceEqDiff, reduceAdd, reduceCtorEq, reduceToNat, Tryz.f40, e0, e3, e4, hi2, hv1, hv2]
      exact ⟨(by intro p hp; cases hp), _, by omega, i + n, f, v, acc ++ [gw ws i, gw ws (i + 1), gw ws (i + (n - 1))], rfl, by omega, rfl, rfl, by rw [List.length_append]; simp; omega, by omega, by rw [hr]; simp, ext_of hX1 hn4 hf4, by
        rw [show wcells (acc ++ [gw ws i, gw ws (i + 1), gw ws (i + (n - 1))]) = wcells acc ++ ([gw ws i, gw ws (i + 1), gw ws (i + (n - 1))].flatMap WD.cells) by simp [wcells]]
        exact ha4⟩
  · rw [rowsT, List.drop_eq_nil_of_le (by omega), if_pos rfl, List.append_nil] at hr
    simp +contextual (disch := first | (simp only [fr]; done) | omega | (simp only [Knx]; omega) | (apply Nat.le_antisymm <;> simp only [Knx] <;> omega) | fail) only [wpy, fD, reduceLE, reduceLT, reduceLeDiff, UInt8.reduceToNat, ↓reduceIte, reduceEqDiff, reduceAdd, reduceCtorEq, reduceToNat, Tryz.f40, e0, e3, e4, hi2, a1]
    exact ⟨hx, by rw [hr]; exact hl⟩
set_option maxHeartbeats 2000000 in
theorem rlists_spec (lv : V) (ws : List WD) (h : H) (ha : Wds h lv ws) (hwl : ws.length < 2 ^ 27) : Pure S.cfg 39 [lv] h fun v h' => Wx.Acc h.nx h' v (wcells (rlistsT (ws.length + 1) ws)) 43 3 := by
  refine into Tryz.f39 _ Tryz.func39 (hS.ownR _ (by decide)) rfl rfl (by kernel_rfl) (by kernel_rfl) ?_
  have a1 := ha.len
  simp +contextual (disch := first | (simp only [fr]; done) | omega | (simp only [Knx]; omega) | (apply Nat.le_antisymm <;> simp only [Knx] <;> omega) | fail) only [wpy, fD, reduceLE, reduceLT, reduceLeDiff, UInt8.reduceToNat, ↓reduceIte, reduceEqDiff, reduceAdd, reduceCtorEq, reduceToNat, Tryz.f39, a1]
  refine run_loop (fun k env h' => ∃ (i f : Nat) (l : V) (acc : List WD), k = ws.length - i ∧ i ≤ ws.length ∧ env 0 = lv ∧ env 3 = l ∧ env 4 = .int .i64 i ∧ acc.length ≤ i ∧ ws.length < i + f ∧ rlistsT (ws.length + 1) ws = acc ++ rlistsT f (ws.drop i) ∧ Ext h h' ∧ Wx.Acc h.nx h' l (wcells acc) 43 3) ws.length ⟨0, ws.length + 1, .nilslice, [], ?_⟩ ?_
  · simp +contextual (disch := first | (simp only [fr]; done) | omega | (simp only [Knx]; omega) | (apply Nat.le_antisymm <;> simp only [Knx] <;> omega) | fail) only [wpy, fD, reduceLE, reduceLT, reduceLeDiff, UInt8.reduceToNat, ↓reduceIte, reduceEqDiff, reduceAdd, reduceCtorEq, reduceToNat]
    first | exact ⟨by simp, by omega, Ext.refl _, .inl ⟨rfl, rfl⟩⟩ | exact ⟨by omega, Ext.refl _, .inl ⟨rfl, rfl⟩⟩ | exact ⟨Ext.refl _, .inl ⟨rfl, rfl⟩⟩
  rintro k env h' ⟨i, f, l, acc, rfl, hi, e0, e3, e4, hacc, hf, hr, hx, hl⟩
  have hxn := hx.1
  have hc1 := hl.cell.1
  have hc2 := hl.cell.2
  obtain ⟨f, rfl⟩ : ∃ g, f = g + 1 := ⟨f - 1, by omega⟩
  generalize hR : rlistsT (ws.length + 1) ws = R at *
  by_cases hi2 : i < ws.length
  · rw [rlistsT, if_neg (wdrop_ne hi2)] at hr
    have hah := ha.ext hx
    simp +contextual (disch := first | (simp only [fr]; done) | omega | (simp only [Knx]; omega) | (apply Nat.le_antisymm <;> simp only [Knx] <;> omega) | fail) only [wpy, fD, reduceLE, reduceLT, reduceLeDiff, UInt8.reduceToNat, ↓reduceIte, reduceEqDiff, reduceAdd, reduceCtorEq, reduceToNat, Tryz.f39, e0, e3, e4, hi2, a1]
    refine callF_pure (rrow_spec hS lv ws i h' hah hwl hi2) ?_
    rintro v h1 hx1 rfl
    have hX1 : Ext h h1 := hx.trans hx1
    have hle := rowG_le (ws.drop i)
    rw [List.length_drop] at hle
    obtain ⟨b, o, m, c, fl, rfl, hm, hb, hg, hw1, hw2, hw3⟩ := (ha.ext hX1).opened (by omega)
    have u0 := hw1 i hi2
    have w0 := hw2 i hi2
    by_cases hz : rowG (ws.drop i) = 0
    · rw [if_pos hz, gw_drop, Nat.add_zero, List.drop_drop] at hr
      simp +contextual (disch := first | (simp only [fr]; done) | omega | (simp only [Knx]; omega) | (apply Nat.le_antisymm <;> simp only [Knx] <;> omega) | fail) only [wpy, fD, reduceLE, reduceLT, reduceLeDiff, UInt8.reduceToNat, ↓reduceIte, reduceEqDiff, reduceAdd, reduceCtorEq, reduceToNat, Tryz.f39, e0, e3, e4, hi2, hz, hg, u0, w0, eq_self']
      refine app_word (n0 := h.nx) (l := l) (acc := acc) (gw ws i) (by simp +contextual (disch := first | (simp only [fr]; done) | omega | (simp only [Knx]; omega) | (apply Nat.le_antisymm <;> simp only [Knx] <;> omega) | fail) only [wpy, fD, reduceLE, reduceLT, reduceLeDiff, UInt8.reduceToNat, ↓reduceIte, reduceEqDiff, reduceAdd, reduceCtorEq, reduceToNat]) (by simp +contextual (disch := first | (simp only [fr]; done) | omega | (simp only [Knx]; omega) | (apply Nat.le_antisymm <;> simp only [Knx] <;> omega) | fail) only [wpy, fD, reduceLE, reduceLT, reduceLeDiff, UInt8.reduceToNat, ↓reduceIte, reduceEqDiff, reduceAdd, reduceCtorEq, reduceToNat]) (hl.ext hx1) (by omega) (fun k hk => by rw [fresh_def]; exact .inl hk) hX1.1 ?_
      intro v h4 L ha4 hn4 hf4
      have hv1 := ha4.cell.1
      have hv2 := ha4.cell.2
      simp +contextual (disch := first | (simp only [fr]; done) | omega | (simp only [Knx]; omega) | (apply Nat.le_antisymm <;> simp only [Knx] <;> omega) | fail) only [wpy, fD, reduceLE, reduceLT, reduceLeDiff, UInt8.reduceToNat, ↓reduceIte, reduceEqDiff, reduceAdd, reduceCtorEq, reduceToNat, Tryz.f39, e0, e3, e4, hi2, hv1, hv2]
      exact ⟨_, by omega, i + 1, f, v, acc ++ [gw ws i], rfl, by omega, rfl, rfl, by rw [List.length_append]; simp; omega, by omega, by rw [hr]; simp, ext_of hX1 hn4 hf4, ha4⟩
    · generalize hn : rowG (ws.drop i) = n at *
      rw [if_neg hz, List.drop_drop, List.length_drop] at hr
      have hn3 : 3 ≤ n := by omega
      have hne : (i + n = i) = False := by simp; omega
      simp +contextual (disch := first | (simp only [fr]; done) | omega | (simp only [Knx]; omega) | (apply Nat.le_antisymm <;> simp only [Knx] <;> omega) | fail) only [wpy, fD, reduceLE, reduceLT, reduceLeDiff, UInt8.reduceToNat, ↓reduceIte, reduceEqDiff, reduceAdd, reduceCtorEq, reduceToNat, Tryz.f39, e0, e3, e4, hi2, hne]
      refine slice_row (e := 43) (sz := 3) (b := b) (o := o) (n := ws.length) (m := m) (l := i) (hh := i + n) (mm := m) (by kernel_rfl) sz43 (by simp +contextual (disch := first | (simp only [fr]; done) | omega | (simp only [Knx]; omega) | (apply Nat.le_antisymm <;> simp only [Knx] <;> omega) | fail) only [wpy, fD, reduceLE, reduceLT, reduceLeDiff, UInt8.reduceToNat, ↓reduceIte, reduceEqDiff, reduceAdd, reduceCtorEq, reduceToNat]) (by rw [hg]; rfl) (fun _ => rfl) (by simp +contextual (disch := first | (simp only [fr]; done) | omega | (simp only [Knx]; omega) | (apply Nat.le_antisymm <;> simp only [Knx] <;> omega) | fail) only [wpy, fD, reduceLE, reduceLT, reduceLeDiff, UInt8.reduceToNat, ↓reduceIte, reduceEqDiff, reduceAdd, reduceCtorEq, reduceToNat]; exact bounds_both (by omega) (by omega)) (by omega) ?_
      rw [show i + n - i = n by omega]
      have hnl : (wcells ((ws.drop i).take n)).length = n * 3 := by rw [wcells_len, List.length_take, List.length_drop, Nat.min_eq_left (by omega)]
      simp +contextual (disch := first | (simp only [fr]; done) | omega | (simp only [Knx]; omega) | (apply Nat.le_antisymm <;> simp only [Knx] <;> omega) | fail) only [wpy, fD, reduceLE, reduceLT, reduceLeDiff, UInt8.reduceToNat, ↓reduceIte, reduceEqDiff, reduceAdd, reduceCtorEq, reduceToNat, Tryz.f39, e0, e3, e4, hi2]
      refine append_accV (sv := l) (n0 := h.nx) (cells := wcells acc) (new := wcells ((ws.drop i).take n)) (b2 := b) (o2 := o + i * 3) (n := n) (m := m - i) (by simp +contextual (disch := first | (simp only [fr]; done) | omega | (simp only [Knx]; omega) | (apply Nat.le_antisymm <;> simp only [Knx] <;> omega) | fail) only [wpy, fD, reduceLE, reduceLT, reduceLeDiff, UInt8.reduceToNat, ↓reduceIte, reduceEqDiff, reduceAdd, reduceCtorEq, reduceToNat]) ap30 ⟨.slice 43, by kernel_rfl, rfl⟩ (hl.ext hx1) (by simp +contextual (disch := first | (simp only [fr]; done) | omega | (simp only [Knx]; omega) | (apply Nat.le_antisymm <;> simp only [Knx] <;> omega) | fail) only [wpy, fD, reduceLE, reduceLT, reduceLeDiff, UInt8.reduceToNat, ↓reduceIte, reduceEqDiff, reduceAdd, reduceCtorEq, reduceToNat]) (by omega) ?_ hnl ?_ ?_ (by decide) (fun k hk => by rw [fresh_def]; exact .inl hk) ?_ hX1.1
      · rw [hg]
        unfold rdC
        have hb9 : Nat.ble (o + i * 3 + n * 3) c.length = true := ble_iff.2 (by have := hw1 (i + (n - 1)) (by omega); omega)
        simp only [hb9, cond_true]
        exact congrArg some (row_sub (k := n) hw3 (by omega))
      · exact wcells_cell _
      · rw [wcells_len, hnl]
        omega
      intro v h4 L ha4 hst hL
      have hX4 : Ext h h4 := StaysBut.ext (n0 := 0) hX1 hst (hl.ext hx1)
      rw [← wcells_app] at ha4
      have hv1 := ha4.cell.1
      have hv2 := ha4.cell.2
      simp +contextual (disch := first | (simp only [fr]; done) | omega | (simp only [Knx]; omega) | (apply Nat.le_antisymm <;> simp only [Knx] <;> omega) | fail) only [wpy, fD, reduceLE, reduceLT, reduceLeDiff, UInt8.reduceToNat, ↓reduceIte, reduceEqDiff, reduceAdd, reduceCtorEq, reduceToNat, Tryz.f39, e0, e3, e4, hi2, hv1, hv2]
      refine run_loop (fun k env2 h2 => ∃ (j g : Nat), k = ws.length + 4 - j ∧ i + n ≤ j ∧ j ≤ ws.length ∧ env2 0 = .slice b o ws.length m ∧ env2 3 = v ∧ env2 4 = .int .i64 j ∧ ws.length ≤ j + g ∧ rskipT (ws.length - i) (ws.drop (i + n)) = rskipT g (ws.drop j) ∧ Ext h h2 ∧ Wx.Acc h.nx h2 v (wcells (acc ++ (ws.drop i).take n)) 43 3) (ws.length + 4 - (i + n)) ⟨i + n, ws.length - i, ?_⟩ ?_
      · simp +contextual (disch := first | (simp only [fr]; done) | omega | (simp only [Knx]; omega) | (apply Nat.le_antisymm <;> simp only [Knx] <;> omega) | fail) only [wpy, fD, reduceLE, reduceLT, reduceLeDiff, UInt8.reduceToNat, ↓reduceIte, reduceEqDiff, reduceAdd, reduceCtorEq, reduceToNat, e0]
        exact ⟨by omega, by omega, hX4, ha4⟩
      rintro k env2 h2 ⟨j, g, rfl, hj3, hjl, f0, f3, f4, hg2, hsk, hx2, hl2⟩
      have hb1 : b < h.nx := by
        rcases ha with ⟨q, _⟩ | ⟨b', _, _, _, _, q, _, q2, _⟩
        · cases q
        · cases q; exact q2
      have hgh : h2.get b = some (.cells c 43 fl) := by rw [hx2.2 b hb1, ← hX1.2 b hb1]; exact hg
      have hfin : ∀ h5, Ext h2 h5 → rskipT g (ws.drop j) = ws.drop j → ∃ m', m' < ws.length - i ∧ ∃ (i' f' : Nat) (l : V) (acc' : List WD), m' = ws.length - i' ∧ i' ≤ ws.length ∧ v = l ∧ j = i' ∧ acc'.length ≤ i' ∧ ws.length < i' + f' ∧ R = acc' ++ rlistsT f' (ws.drop i') ∧ Ext h h5 ∧ Wx.Acc h.nx h5 l (wcells acc') 43 3 := fun h5 hx5 hq => ⟨_, by omega, j, f, v, acc ++ (ws.drop i).take n, rfl, hjl, rfl, rfl, by rw [List.length_append, List.length_take, List.length_drop]; omega, by omega, by rw [hr, hsk, hq, List.append_assoc], hx2.trans hx5, hl2.ext hx5⟩
      by_cases k0 : j + 1 < ws.length
      · have k00 : j < ws.length := by omega
        have u0 := hw1 j k00
        have w0 := hw2 j k00
        simp +contextual (disch := first | (simp only [fr]; done) | omega | (simp only [Knx]; omega) | (apply Nat.le_antisymm <;> simp only [Knx] <;> omega) | fail) only [wpy, fD, reduceLE, reduceLT, reduceLeDiff, UInt8.reduceToNat, ↓reduceIte, reduceEqDiff, reduceAdd, reduceCtorEq, reduceToNat, Tryz.f39, f0, f3, f4, k0, k00, hgh, u0, w0]
        refine callF_pure (rsgn_spec hS (gw ws j) [44] _) ?_
        rintro v6 h6 hX6 rfl
        by_cases c0 : isS (gw ws j) [[44]]
        · simp +contextual (disch := first | (simp only [fr]; done) | omega | (simp only [Knx]; omega) | (apply Nat.le_antisymm <;> simp only [Knx] <;> omega) | fail) only [wpy, fD, reduceLE, reduceLT, reduceLeDiff, UInt8.reduceToNat, ↓reduceIte, reduceEqDiff, reduceAdd, reduceCtorEq, reduceToNat, Tryz.f39, f0, f3, f4, k0, c0]
          refine callF_pure (rrow_spec hS _ ws (j + 1) h6 (ha.ext (hx2.trans hX6)) hwl k0) ?_
          rintro v7 h7 hx7 rfl
          have hX7 : Ext h2 h7 := hX6.trans hx7
          have hle2 := rowG_le (ws.drop (j + 1))
          rw [List.length_drop] at hle2
          by_cases c1 : rowG (ws.drop (j + 1)) = 0
          · simp +contextual (disch := first | (simp only [fr]; done) | omega | (simp only [Knx]; omega) | (apply Nat.le_antisymm <;> simp only [Knx] <;> omega) | fail) only [wpy, fD, reduceLE, reduceLT, reduceLeDiff, UInt8.reduceToNat, ↓reduceIte, reduceEqDiff, reduceAdd, reduceCtorEq, reduceToNat, Tryz.f39, f0, f3, f4, k0, c0, c1, eq_self']
            exact hfin _ hX7 (rskipT_stop fun q => q.2.2 (by rw [List.drop_drop]; exact c1))
          · have hne2 : (j + 1 + rowG (ws.drop (j + 1)) = j + 1) = False := by simp; omega
            obtain ⟨g, rfl⟩ : ∃ g', g = g' + 1 := ⟨g - 1, by omega⟩
            rw [rskipT, if_pos ⟨by rw [List.length_drop]; omega, by rw [gw_drop, Nat.add_zero]; exact c0, by rw [List.drop_drop]; exact c1⟩, List.drop_drop, List.drop_drop] at hsk
            simp +contextual (disch := first | (simp only [fr]; done) | omega | (simp only [Knx]; omega) | (apply Nat.le_antisymm <;> simp only [Knx] <;> omega) | fail) only [wpy, fD, reduceLE, reduceLT, reduceLeDiff, UInt8.reduceToNat, ↓reduceIte, reduceEqDiff, reduceAdd, reduceCtorEq, reduceToNat, Tryz.f39, f0, f3, f4, k0, c0, hne2]
            exact ⟨_, by omega, j + 1 + rowG (ws.drop (j + 1)), g, rfl, by omega, by omega, rfl, by omega, by rw [hsk, Nat.add_assoc], hx2.trans hX7, hl2.ext hX7⟩
        · simp +contextual (disch := first | (simp only [fr]; done) | omega | (simp only [Knx]; omega) | (apply Nat.le_antisymm <;> simp only [Knx] <;> omega) | fail) only [wpy, fD, reduceLE, reduceLT, reduceLeDiff, UInt8.reduceToNat, ↓reduceIte, reduceEqDiff, reduceAdd, reduceCtorEq, reduceToNat, Tryz.f39, f0, f3, f4, k0, c0]
          exact hfin _ hX6 (rskipT_stop fun q => c0 (by have := q.2.1; rw [gw_drop, Nat.add_zero] at this; exact this))
      · simp +contextual (disch := first | (simp only [fr]; done) | omega | (simp only [Knx]; omega) | (apply Nat.le_antisymm <;> simp only [Knx] <;> omega) | fail) only [wpy, fD, reduceLE, reduceLT, reduceLeDiff, UInt8.reduceToNat, ↓reduceIte, reduceEqDiff, reduceAdd, reduceCtorEq, reduceToNat, Tryz.f39, f0, f3, f4, k0]
        exact hfin _ (Ext.refl _) (rskipT_stop fun q => by have := q.1; rw [List.length_drop] at this; omega)
  · rw [rlistsT, List.drop_eq_nil_of_le (by omega), if_pos rfl, List.append_nil] at hr
    simp +contextual (disch := first | (simp only [fr]; done) | omega | (simp only [Knx]; omega) | (apply Nat.le_antisymm <;> simp only [Knx] <;> omega) | fail) only [wpy, fD, reduceLE, reduceLT, reduceLeDiff, UInt8.reduceToNat, ↓reduceIte, reduceEqDiff, reduceAdd, reduceCtorEq, reduceToNat, Tryz.f39, e0, e3, e4, hi2, a1]
    exact ⟨hx, by rw [hr]; exact hl⟩
end
end Go.Proofs.YtkibhdbmamfjcaaGreatDoor
set_option maxHeartbeats 1000000
set_option linter.unusedSimpArgs false
set_option linter.unusedVariables false
set_option linter.unusedSectionVars false
set_option linter.defProp false
set_option maxRecDepth 10000
namespace Go.Proofs.YtkibhdbmamfjcaaGreatDoor
open Int (reduceLE reduceLT reduceToNat)
open Nat (reduceLeDiff reduceEqDiff reduceAdd)
open Go.Proofs Go.Lx Go.Wx Go.IntWalk
noncomputable section
def inn (c : Nat) (t : List Nat) : List Nat := t.flatMap fun d => if c = d then [c] else []
def dbl (s q t : List Nat) : List Nat := q ++ s.flatMap (fun c => inn c t ++ [c]) ++ q
theorem inn_len (c : Nat) : ∀ t : List Nat, (inn c t).length ≤ t.length
  | [] => Nat.le_refl _
  | d :: t => by
    have := inn_len c t
    rw [inn, List.flatMap_cons, List.length_append, List.length_cons, show (t.flatMap fun d => if c = d then [c] else []) = inn c t from rfl]
    split <;> simp <;> omega
theorem dblm_len (t : List Nat) : ∀ s : List Nat, (s.flatMap (fun c => inn c t ++ [c])).length ≤ s.length * (t.length + 1)
  | [] => Nat.zero_le _
  | c :: s => by
    have h1 := dblm_len t s
    have h2 := inn_len c t
    rw [List.flatMap_cons, List.length_append, List.length_append, List.length_cons, List.length_cons, List.length_nil, Nat.add_mul]
    omega
theorem one_at {s : List Nat} {i : Nat} (hi : i < s.length) : (s.take (i + 1)).drop i = [s.getD i 0] := by
  rw [List.drop_take, Nat.add_sub_cancel_left, List.drop_eq_getElem_cons hi, List.take_succ_cons, List.take_zero, List.getD_eq_getElem?_getD, List.getElem?_eq_getElem hi]
  rfl

variable {S : Set0} (hS : StdR S)
include hS
set_option maxHeartbeats 2000000 in
theorem rrest_spec (lv : V) (ws : List WD) (h : H) (ha : Wds h lv ws) (hwl : ws.length < 2 ^ 27) : Pure S.cfg 38 [lv] h fun v h' => Wds h' v (ws.take (trimN ws ws.length)) := by
  refine into Tryz.f38 _ Tryz.func38 (hS.ownR _ (by decide)) rfl rfl (by kernel_rfl) (by kernel_rfl) ?_
  simp +contextual (disch := first | (simp only [fr]; done) | omega | (simp only [Knx]; omega) | (apply Nat.le_antisymm <;> simp only [Knx] <;> omega) | fail) only [wpy, fD, reduceLE, reduceLT, reduceLeDiff, UInt8.reduceToNat, ↓reduceIte, reduceEqDiff, reduceAdd, reduceCtorEq, reduceToNat, Tryz.f38]
  refine run_loop (fun k env h' => ∃ (n : Nat) (l : V), k = n ∧ n ≤ ws.length ∧ env 0 = l ∧ Ext h h' ∧ Wds h' l (ws.take n) ∧ trimN ws ws.length = trimN ws n) ws.length ⟨ws.length, lv, ?_⟩ ?_
  · simp +contextual (disch := first | (simp only [fr]; done) | omega | (simp only [Knx]; omega) | (apply Nat.le_antisymm <;> simp only [Knx] <;> omega) | fail) only [wpy, fD, reduceLE, reduceLT, reduceLeDiff, UInt8.reduceToNat, ↓reduceIte, reduceEqDiff, reduceAdd, reduceCtorEq, reduceToNat]
    exact ⟨Ext.refl _, by rw [List.take_length]; exact ha⟩
  rintro k env h' ⟨n, l, hkn, hn, e0, hx, hl, ht⟩
  have a1 := hl.len
  have hc := hl.cell
  have hlen : (ws.take n).length = n := by rw [List.length_take]; omega
  rw [hlen] at a1
  by_cases h0 : 0 < n
  · obtain ⟨n, rfl⟩ : ∃ q, n = q + 1 := ⟨n - 1, by omega⟩
    obtain ⟨b, o, m, c, fl, rfl, hm, hb, hg, hw1, hw2, hw3⟩ := hl.opened (by omega)
    have hgt : gw (ws.take (n + 1)) n = gw ws n := by
      unfold gw
      rw [List.getD_eq_getElem?_getD, List.getD_eq_getElem?_getD, List.getElem?_take, if_pos (by omega)]
    have u0 := hw1 n (by omega)
    have w0 := hw2 n (by omega)
    rw [hgt] at w0
    rw [hlen] at hm hw3
    rw [trimN] at ht
    have p0 : 0 < n + 1 := Nat.succ_pos n
    have p1 : n < n + 1 := Nat.lt_succ_self n
    simp +contextual (disch := first | (simp only [fr]; done) | omega | (simp only [Knx]; omega) | (apply Nat.le_antisymm <;> simp only [Knx] <;> omega) | fail) only [wpy, fD, reduceLE, reduceLT, reduceLeDiff, UInt8.reduceToNat, ↓reduceIte, reduceEqDiff, reduceAdd, reduceCtorEq, reduceToNat, Tryz.f38, e0, a1, hlen, hg, u0, w0, Nat.add_sub_cancel, p0, p1]
    refine callF_pure (rsgn_spec hS (gw ws n) [59] _) ?_
    rintro v h6 hX6 rfl
    have hg6 : h6.get b = some (.cells c 43 fl) := by rw [hX6.2 b hb]; exact hg
    by_cases c0 : isS (gw ws n) [[59]]
    · rw [if_pos c0] at ht
      simp +contextual (disch := first | (simp only [fr]; done) | omega | (simp only [Knx]; omega) | (apply Nat.le_antisymm <;> simp only [Knx] <;> omega) | fail) only [wpy, fD, reduceLE, reduceLT, reduceLeDiff, UInt8.reduceToNat, ↓reduceIte, reduceEqDiff, reduceAdd, reduceCtorEq, reduceToNat, Tryz.f38, e0, a1, hlen, Nat.add_sub_cancel, p0, p1, c0]
      refine slice_row (e := 43) (sz := 3) (b := b) (o := o) (n := n + 1) (m := m) (l := 0) (hh := n) (mm := m) (by kernel_rfl) sz43 (by simp +contextual (disch := first | (simp only [fr]; done) | omega | (simp only [Knx]; omega) | (apply Nat.le_antisymm <;> simp only [Knx] <;> omega) | fail) only [wpy, fD, reduceLE, reduceLT, reduceLeDiff, UInt8.reduceToNat, ↓reduceIte, reduceEqDiff, reduceAdd, reduceCtorEq, reduceToNat]) (by rw [hg6]; rfl) (fun _ => rfl) (by simp +contextual (disch := first | (simp only [fr]; done) | omega | (simp only [Knx]; omega) | (apply Nat.le_antisymm <;> simp only [Knx] <;> omega) | fail) only [wpy, fD, reduceLE, reduceLT, reduceLeDiff, UInt8.reduceToNat, ↓reduceIte, reduceEqDiff, reduceAdd, reduceCtorEq, reduceToNat]; exact bounds_hi (by omega)) (by omega) ?_
      rw [Nat.zero_mul, Nat.add_zero, Nat.sub_zero, Nat.sub_zero]
      simp +contextual (disch := first | (simp only [fr]; done) | omega | (simp only [Knx]; omega) | (apply Nat.le_antisymm <;> simp only [Knx] <;> omega) | fail) only [wpy, fD, reduceLE, reduceLT, reduceLeDiff, UInt8.reduceToNat, ↓reduceIte, reduceEqDiff, reduceAdd, reduceCtorEq, reduceToNat, Tryz.f38, e0]
      refine ⟨_, ?_, n, _, rfl, by omega, rfl, hx.trans hX6, ?_, ht⟩
      · omega
      · have hln : (ws.take n).length = n := by rw [List.length_take]; omega
        have hq := row_sub (i := 0) (k := n) (ws := ws.take (n + 1)) (c := c) (o := o) (by rw [hlen]; exact hw3) (by omega)
        rw [Nat.zero_mul, Nat.add_zero, List.drop_zero, List.take_take, Nat.min_eq_left (by omega)] at hq
        refine .inr ⟨b, o, m, c, fl, ?_, by omega, Nat.lt_of_lt_of_le hb hX6.1, hg6, ?_, by rw [hln]; exact hq⟩
        · rw [hln]
        · have := hw1 n (by omega)
          rw [hln]
          omega
    · rw [if_neg c0] at ht
      simp +contextual (disch := first | (simp only [fr]; done) | omega | (simp only [Knx]; omega) | (apply Nat.le_antisymm <;> simp only [Knx] <;> omega) | fail) only [wpy, fD, reduceLE, reduceLT, reduceLeDiff, UInt8.reduceToNat, ↓reduceIte, reduceEqDiff, reduceAdd, reduceCtorEq, reduceToNat, Tryz.f38, e0, a1, hlen, Nat.add_sub_cancel, p0, p1, c0]
      rw [hlen] at hl
      exact ⟨hx.trans hX6, by rw [ht]; exact hl.ext hX6⟩
  · obtain rfl : n = 0 := by omega
    simp +contextual (disch := first | (simp only [fr]; done) | omega | (simp only [Knx]; omega) | (apply Nat.le_antisymm <;> simp only [Knx] <;> omega) | fail) only [wpy, fD, reduceLE, reduceLT, reduceLeDiff, UInt8.reduceToNat, ↓reduceIte, reduceEqDiff, reduceAdd, reduceCtorEq, reduceToNat, Tryz.f38, e0, a1, Nat.lt_irrefl]
    exact ⟨hx, by rw [ht]; exact hl⟩
def rwordsF (ws : List WD) : List WD := (rlistsT ((rowsF (sigF (valF ws))).length + 1) (rowsF (sigF (valF ws)))).take (trimN (rlistsT ((rowsF (sigF (valF ws))).length + 1) (rowsF (sigF (valF ws)))) (rlistsT ((rowsF (sigF (valF ws))).length + 1) (rowsF (sigF (valF ws)))).length)
omit hS in
theorem rskipT_len : ∀ (g : Nat) (l : List WD), (rskipT g l).length ≤ l.length
  | 0, l => Nat.le_refl _
  | g + 1, l => by
    rw [rskipT]
    split
    · have := rskipT_len g (l.drop (1 + rowG (l.drop 1)))
      rw [List.length_drop] at this
      omega
    · exact Nat.le_refl _
omit hS in
theorem rlistsT_len : ∀ (f : Nat) (l : List WD), (rlistsT f l).length ≤ l.length
  | 0, l => Nat.zero_le _
  | f + 1, l => by
    have hr := rowG_le l
    rw [rlistsT]
    split
    · exact Nat.zero_le _
    · rename_i hne
      have hp : 0 < l.length := List.length_pos_iff.2 hne
      split
      · have := rlistsT_len f (l.drop 1)
        rw [List.length_drop] at this
        rw [List.length_cons]
        omega
      · have h1 := rlistsT_len f (rskipT l.length (l.drop (rowG l)))
        have h2 := rskipT_len l.length (l.drop (rowG l))
        rw [List.length_drop] at h2
        rw [List.length_append, List.length_take]
        omega
theorem rwords_spec (lv : V) (ws : List WD) (h : H) (ha : Wds h lv ws) (hwl : ws.length < 2 ^ 27) : Pure S.cfg 15 [lv] h fun v h' => Wds h' v (rwordsF ws) := by
  refine into Tryz.f15 _ Tryz.func15 (hS.ownR _ (by decide)) rfl rfl (by kernel_rfl) (by kernel_rfl) ?_
  simp +contextual (disch := first | (simp only [fr]; done) | omega | (simp only [Knx]; omega) | (apply Nat.le_antisymm <;> simp only [Knx] <;> omega) | fail) only [wpy, fD, reduceLE, reduceLT, reduceLeDiff, UInt8.reduceToNat, ↓reduceIte, reduceEqDiff, reduceAdd, reduceCtorEq, reduceToNat, Tryz.f15]
  refine callF_pure (rlits_spec hS lv ws h ha hwl) ?_
  intro v1 h1 hx1 ha1
  have l1 := valF_len ws
  have i1 := ha1.cell
  simp +contextual (disch := first | (simp only [fr]; done) | omega | (simp only [Knx]; omega) | (apply Nat.le_antisymm <;> simp only [Knx] <;> omega) | fail) only [wpy, fD, reduceLE, reduceLT, reduceLeDiff, UInt8.reduceToNat, ↓reduceIte, reduceEqDiff, reduceAdd, reduceCtorEq, reduceToNat, Tryz.f15, i1.1, i1.2]
  refine callF_pure (rsigns_spec hS v1 _ h1 (.of_acc ha1) (by omega)) ?_
  intro v2 h2 hx2 ha2
  have l2 := sigF_len (valF ws)
  have i2 := ha2.cell
  simp +contextual (disch := first | (simp only [fr]; done) | omega | (simp only [Knx]; omega) | (apply Nat.le_antisymm <;> simp only [Knx] <;> omega) | fail) only [wpy, fD, reduceLE, reduceLT, reduceLeDiff, UInt8.reduceToNat, ↓reduceIte, reduceEqDiff, reduceAdd, reduceCtorEq, reduceToNat, Tryz.f15, i2.1, i2.2]
  refine callF_pure (rrows_spec hS v2 _ h2 (.of_acc ha2) (by omega)) ?_
  intro v3 h3 hx3 ha3
  have l3 : (rowsF (sigF (valF ws))).length ≤ _ := rowsT_len _ _
  have i3 := ha3.cell
  simp +contextual (disch := first | (simp only [fr]; done) | omega | (simp only [Knx]; omega) | (apply Nat.le_antisymm <;> simp only [Knx] <;> omega) | fail) only [wpy, fD, reduceLE, reduceLT, reduceLeDiff, UInt8.reduceToNat, ↓reduceIte, reduceEqDiff, reduceAdd, reduceCtorEq, reduceToNat, Tryz.f15, i3.1, i3.2]
  refine callF_pure (rlists_spec hS v3 _ h3 (.of_acc ha3) (by omega)) ?_
  intro v4 h4 hx4 ha4
  have l4 := rlistsT_len ((rowsF (sigF (valF ws))).length + 1) (rowsF (sigF (valF ws)))
  have i4 := ha4.cell
  have hX : Ext h h4 := ((hx1.trans hx2).trans hx3).trans hx4
  simp +contextual (disch := first | (simp only [fr]; done) | omega | (simp only [Knx]; omega) | (apply Nat.le_antisymm <;> simp only [Knx] <;> omega) | fail) only [wpy, fD, reduceLE, reduceLT, reduceLeDiff, UInt8.reduceToNat, ↓reduceIte, reduceEqDiff, reduceAdd, reduceCtorEq, reduceToNat, Tryz.f15, i4.1, i4.2]
  refine callF_pure (rrest_spec hS v4 _ h4 (.of_acc ha4) (by omega)) ?_
  intro v5 h5 hx5 ha5
  have i5 := ha5.cell
  simp +contextual (disch := first | (simp only [fr]; done) | omega | (simp only [Knx]; omega) | (apply Nat.le_antisymm <;> simp only [Knx] <;> omega) | fail) only [wpy, fD, reduceLE, reduceLT, reduceLeDiff, UInt8.reduceToNat, ↓reduceIte, reduceEqDiff, reduceAdd, reduceCtorEq, reduceToNat, Tryz.f15, i5.1, i5.2]
  exact ⟨hX.trans hx5, ha5⟩
set_option maxHeartbeats 2000000 in
theorem dbl_spec (s q t : List Nat) (h : H) (hs : s.length < 2 ^ 20) (hq : q.length < 10) (ht : t.length < 10) : Exact S.cfg 100 [.str s, .str q, .str t] h (.str (dbl s q t)) := by
  refine into Tryz.f100 _ Tryz.func100 (hS.ownR _ (by decide)) rfl rfl (by kernel_rfl) (by kernel_rfl) ?_
  simp +contextual (disch := first | (simp only [fr]; done) | omega | (simp only [Knx]; omega) | (apply Nat.le_antisymm <;> simp only [Knx] <;> omega) | fail) only [wpy, fD, reduceLE, reduceLT, reduceLeDiff, UInt8.reduceToNat, ↓reduceIte, reduceEqDiff, reduceAdd, reduceCtorEq, reduceToNat, Tryz.f100]
  refine run_loop (fun k env h' => ∃ i : Nat, k = s.length - i ∧ i ≤ s.length ∧ env 0 = .str s ∧ env 1 = .str q ∧ env 2 = .str t ∧ env 7 = .str (q ++ (s.take i).flatMap (fun c => inn c t ++ [c])) ∧ env 8 = .int .i64 i ∧ h' = h) s.length ⟨0, ?_⟩ ?_
  · simp +contextual (disch := first | (simp only [fr]; done) | omega | (simp only [Knx]; omega) | (apply Nat.le_antisymm <;> simp only [Knx] <;> omega) | fail) only [wpy, fD, reduceLE, reduceLT, reduceLeDiff, UInt8.reduceToNat, ↓reduceIte, reduceEqDiff, reduceAdd, reduceCtorEq, reduceToNat]
    first | done | simp
  rintro k env h' ⟨i, rfl, hi, e0, e1, e2, e7, e8, rfl⟩
  have hml := dblm_len t (s.take i)
  rw [List.length_take] at hml
  have hml2 : min i s.length * (t.length + 1) ≤ 2 ^ 20 * 11 := Nat.mul_le_mul (by omega) (by omega)
  by_cases hi2 : i < s.length
  · have hst : (s.take (i + 1)).flatMap (fun c => inn c t ++ [c]) = (s.take i).flatMap (fun c => inn c t ++ [c]) ++ (inn (s.getD i 0) t ++ [s.getD i 0]) := by
      rw [List.take_succ_eq_append_getElem hi2, List.flatMap_append, List.getD_eq_getElem?_getD, List.getElem?_eq_getElem hi2]
      simp
    have h1 := one_at hi2
    obtain ⟨c, hgc⟩ : ∃ c, s.getD i 0 = c := ⟨_, rfl⟩
    rw [hgc] at hst h1
    generalize (s.take i).flatMap (fun c => inn c t ++ [c]) = m at *
    simp +contextual (disch := first | (simp only [fr]; done) | omega | (simp only [Knx]; omega) | (apply Nat.le_antisymm <;> simp only [Knx] <;> omega) | fail) only [wpy, fD, reduceLE, reduceLT, reduceLeDiff, UInt8.reduceToNat, ↓reduceIte, reduceEqDiff, reduceAdd, reduceCtorEq, reduceToNat, Tryz.f100, e0, e1, e2, e7, e8, hi2]
    refine run_loop (fun k env2 h2 => ∃ j : Nat, k = t.length - j ∧ j ≤ t.length ∧ env2 0 = .str s ∧ env2 1 = .str q ∧ env2 2 = .str t ∧ env2 7 = .str (q ++ m ++ inn c (t.take j)) ∧ env2 8 = .int .i64 i ∧ env2 9 = .int .i64 j ∧ h2 = h') t.length ⟨0, ?_⟩ ?_
    · simp +contextual (disch := first | (simp only [fr]; done) | omega | (simp only [Knx]; omega) | (apply Nat.le_antisymm <;> simp only [Knx] <;> omega) | fail) only [wpy, fD, reduceLE, reduceLT, reduceLeDiff, UInt8.reduceToNat, ↓reduceIte, reduceEqDiff, reduceAdd, reduceCtorEq, reduceToNat, e0, e1, e2, e7, e8]
      simp [inn]
    rintro k env2 h2 ⟨j, rfl, hj, f0, f1, f2, f7, f8, f9, rfl⟩
    have hil := inn_len c (t.take j)
    rw [List.length_take] at hil
    by_cases hj2 : j < t.length
    · obtain ⟨d, hgd⟩ : ∃ d, t.getD j 0 = d := ⟨_, rfl⟩
      have hst2 : inn c (t.take (j + 1)) = inn c (t.take j) ++ (if c = d then [c] else []) := by
        rw [inn, List.take_succ_eq_append_getElem hj2, List.flatMap_append]
        rw [List.getD_eq_getElem?_getD, List.getElem?_eq_getElem hj2] at hgd
        simp only [List.flatMap_cons, List.flatMap_nil, List.append_nil]
        rw [← hgd]
        rfl
      simp +contextual (disch := first | (simp only [fr]; done) | omega | (simp only [Knx]; omega) | (apply Nat.le_antisymm <;> simp only [Knx] <;> omega) | fail) only [wpy, fD, reduceLE, reduceLT, reduceLeDiff, UInt8.reduceToNat, ↓reduceIte, reduceEqDiff, reduceAdd, reduceCtorEq, reduceToNat, Tryz.f100, f0, f1, f2, f7, f8, f9, hj2]
      refine draw_by [] (by kernel_rfl) ?_
      by_cases hcd : c = d
      · rw [if_pos hcd] at hst2
        have hcd' := eq_true hcd
        have hln : q.length + m.length + (inn c (t.take j)).length + 1 ≤ 9223372036854775807 := by omega
        simp +contextual (disch := first | (simp only [fr]; done) | omega | (simp only [Knx]; omega) | (apply Nat.le_antisymm <;> simp only [Knx] <;> omega) | fail) only [wpy, fD, reduceLE, reduceLT, reduceLeDiff, UInt8.reduceToNat, ↓reduceIte, reduceEqDiff, reduceAdd, reduceCtorEq, reduceToNat, Tryz.f100, f0, f1, f2, f7, f8, f9, hj2, hi2, hgc, hgd, hcd', h1, hln]
        exact ⟨(by intro p hp; cases hp), ⟨by omega, by omega⟩, _, by omega, j + 1, rfl, by omega, by rw [hst2, List.append_assoc (q ++ m)], rfl⟩
      · rw [if_neg hcd, List.append_nil] at hst2
        have hcd' := eq_false hcd
        simp +contextual (disch := first | (simp only [fr]; done) | omega | (simp only [Knx]; omega) | (apply Nat.le_antisymm <;> simp only [Knx] <;> omega) | fail) only [wpy, fD, reduceLE, reduceLT, reduceLeDiff, UInt8.reduceToNat, ↓reduceIte, reduceEqDiff, reduceAdd, reduceCtorEq, reduceToNat, Tryz.f100, f0, f1, f2, f7, f8, f9, hj2, hi2, hgc, hgd, hcd']
        exact ⟨(by intro p hp; cases hp), _, by omega, j + 1, rfl, by omega, by rw [hst2], rfl⟩
    · have hjt : j = t.length := by omega
      subst hjt
      rw [List.take_length] at f7 hil
      have hln : q.length + m.length + (inn c t).length + 1 ≤ 9223372036854775807 := by omega
      simp +contextual (disch := first | (simp only [fr]; done) | omega | (simp only [Knx]; omega) | (apply Nat.le_antisymm <;> simp only [Knx] <;> omega) | fail) only [wpy, fD, reduceLE, reduceLT, reduceLeDiff, UInt8.reduceToNat, ↓reduceIte, reduceEqDiff, reduceAdd, reduceCtorEq, reduceToNat, Tryz.f100, f0, f1, f2, f7, f8, f9, hj2, hi2, h1, hln]
      exact ⟨⟨by omega, by omega⟩, _, by omega, i + 1, rfl, by omega, by rw [hst]; simp [List.append_assoc], rfl⟩
  · have his : i = s.length := by omega
    subst his
    rw [List.take_length] at e7 hml
    have hln : q.length + (s.flatMap (fun c => inn c t ++ [c])).length + q.length ≤ 9223372036854775807 := by omega
    simp +contextual (disch := first | (simp only [fr]; done) | omega | (simp only [Knx]; omega) | (apply Nat.le_antisymm <;> simp only [Knx] <;> omega) | fail) only [wpy, fD, reduceLE, reduceLT, reduceLeDiff, UInt8.reduceToNat, ↓reduceIte, reduceEqDiff, reduceAdd, reduceCtorEq, reduceToNat, Tryz.f100, e0, e1, e2, e7, e8, hi2, hln]
    rfl
def rnameF (s : List Nat) : List Nat := dbl s [96] [96]
def rquotF (s : List Nat) : List Nat := dbl s [39] [39, 92]
theorem rname_spec (s : List Nat) (h : H) (hs : s.length < 2 ^ 20) : Exact S.cfg 76 [.str s] h (.str (rnameF s)) := by
  refine into Tryz.f76 _ Tryz.func76 (hS.ownR _ (by decide)) rfl rfl (by kernel_rfl) (by kernel_rfl) ?_
  simp +contextual (disch := first | (simp only [fr]; done) | omega | (simp only [Knx]; omega) | (apply Nat.le_antisymm <;> simp only [Knx] <;> omega) | fail) only [wpy, fD, reduceLE, reduceLT, reduceLeDiff, UInt8.reduceToNat, ↓reduceIte, reduceEqDiff, reduceAdd, reduceCtorEq, reduceToNat, Tryz.f76]
  refine callF_exact (dbl_spec hS s [96] [96] _ hs (by decide) (by decide)) ?_
  simp +contextual (disch := first | (simp only [fr]; done) | omega | (simp only [Knx]; omega) | (apply Nat.le_antisymm <;> simp only [Knx] <;> omega) | fail) only [wpy, fD, reduceLE, reduceLT, reduceLeDiff, UInt8.reduceToNat, ↓reduceIte, reduceEqDiff, reduceAdd, reduceCtorEq, reduceToNat, Tryz.f76]
  first | done | rfl | exact ⟨rfl, rfl⟩
theorem rquot_spec (s : List Nat) (h : H) (hs : s.length < 2 ^ 20) : Exact S.cfg 77 [.str s] h (.str (rquotF s)) := by
  refine into Tryz.f77 _ Tryz.func77 (hS.ownR _ (by decide)) rfl rfl (by kernel_rfl) (by kernel_rfl) ?_
  simp +contextual (disch := first | (simp only [fr]; done) | omega | (simp only [Knx]; omega) | (apply Nat.le_antisymm <;> simp only [Knx] <;> omega) | fail) only [wpy, fD, reduceLE, reduceLT, reduceLeDiff, UInt8.reduceToNat, ↓reduceIte, reduceEqDiff, reduceAdd, reduceCtorEq, reduceToNat, Tryz.f77]
  refine callF_exact (dbl_spec hS s [39] [39, 92] _ hs (by decide) (by decide)) ?_
  simp +contextual (disch := first | (simp only [fr]; done) | omega | (simp only [Knx]; omega) | (apply Nat.le_antisymm <;> simp only [Knx] <;> omega) | fail) only [wpy, fD, reduceLE, reduceLT, reduceLeDiff, UInt8.reduceToNat, ↓reduceIte, reduceEqDiff, reduceAdd, reduceCtorEq, reduceToNat, Tryz.f77]
  first | done | rfl | exact ⟨rfl, rfl⟩
def toldF (w : WD) : List Nat := if w.kind = 2 then rnameF w.text else if w.kind = 3 then rquotF w.text else if w.kind = 6 then 64 :: rnameF w.text else if w.kind = 7 then 64 :: 64 :: w.text else if w.kind = 8 then [63] else w.text
omit hS in
theorem dbl_len (s q t : List Nat) : (dbl s q t).length ≤ s.length * (t.length + 1) + 2 * q.length := by
  have := dblm_len t s
  simp only [dbl, List.length_append]
  omega
theorem told_spec (w : WD) (h : H) (hs : w.text.length < 2 ^ 20) : Pure S.cfg 37 [.agg w.cells] h fun v _ => v = .str (toldF w) := by
  refine into Tryz.f37 _ Tryz.func37 (hS.ownR _ (by decide)) rfl rfl (by kernel_rfl) (by kernel_rfl) ?_
  by_cases c2 : w.kind = 2
  · simp +contextual (disch := first | (simp only [fr]; done) | omega | (simp only [Knx]; omega) | (apply Nat.le_antisymm <;> simp only [Knx] <;> omega) | fail) only [wpy, fD, reduceLE, reduceLT, reduceLeDiff, UInt8.reduceToNat, ↓reduceIte, reduceEqDiff, reduceAdd, reduceCtorEq, reduceToNat, Tryz.f37, wcell, c2]
    refine callF_exact (rname_spec hS _ _ hs) ?_
    simp +contextual (disch := first | (simp only [fr]; done) | omega | (simp only [Knx]; omega) | (apply Nat.le_antisymm <;> simp only [Knx] <;> omega) | fail) only [wpy, fD, reduceLE, reduceLT, reduceLeDiff, UInt8.reduceToNat, ↓reduceIte, reduceEqDiff, reduceAdd, reduceCtorEq, reduceToNat, Tryz.f37]
    exact ⟨(Ext.refl h).push _, by rw [toldF, if_pos c2]⟩
  by_cases c3 : w.kind = 3
  · simp +contextual (disch := first | (simp only [fr]; done) | omega | (simp only [Knx]; omega) | (apply Nat.le_antisymm <;> simp only [Knx] <;> omega) | fail) only [wpy, fD, reduceLE, reduceLT, reduceLeDiff, UInt8.reduceToNat, ↓reduceIte, reduceEqDiff, reduceAdd, reduceCtorEq, reduceToNat, Tryz.f37, wcell, c2, c3]
    refine callF_exact (rquot_spec hS _ _ hs) ?_
    simp +contextual (disch := first | (simp only [fr]; done) | omega | (simp only [Knx]; omega) | (apply Nat.le_antisymm <;> simp only [Knx] <;> omega) | fail) only [wpy, fD, reduceLE, reduceLT, reduceLeDiff, UInt8.reduceToNat, ↓reduceIte, reduceEqDiff, reduceAdd, reduceCtorEq, reduceToNat, Tryz.f37]
    exact ⟨(Ext.refl h).push _, by rw [toldF, if_neg c2, if_pos c3]⟩
  by_cases c6 : w.kind = 6
  · have hl := dbl_len w.text [96] [96]
    have hl2 : 1 + (rnameF w.text).length ≤ 9223372036854775807 := by
      show 1 + (dbl w.text [96] [96]).length ≤ _
      simp only [List.length_cons, List.length_nil] at hl
      omega
    simp +contextual (disch := first | (simp only [fr]; done) | omega | (simp only [Knx]; omega) | (apply Nat.le_antisymm <;> simp only [Knx] <;> omega) | fail) only [wpy, fD, reduceLE, reduceLT, reduceLeDiff, UInt8.reduceToNat, ↓reduceIte, reduceEqDiff, reduceAdd, reduceCtorEq, reduceToNat, Tryz.f37, wcell, c2, c3, c6]
    refine callF_exact (rname_spec hS _ _ hs) ?_
    simp +contextual (disch := first | (simp only [fr]; done) | omega | (simp only [Knx]; omega) | (apply Nat.le_antisymm <;> simp only [Knx] <;> omega) | fail) only [wpy, fD, reduceLE, reduceLT, reduceLeDiff, UInt8.reduceToNat, ↓reduceIte, reduceEqDiff, reduceAdd, reduceCtorEq, reduceToNat, Tryz.f37, hl2]
    exact ⟨(Ext.refl h).push _, by rw [toldF, if_neg c2, if_neg c3, if_pos c6]⟩
  by_cases c7 : w.kind = 7
  · have hl2 : 2 + w.text.length ≤ 9223372036854775807 := by omega
    have hl3 : 1 + 1 + w.text.length ≤ 9223372036854775807 := by omega
    simp +contextual (disch := first | (simp only [fr]; done) | omega | (simp only [Knx]; omega) | (apply Nat.le_antisymm <;> simp only [Knx] <;> omega) | fail) only [wpy, fD, reduceLE, reduceLT, reduceLeDiff, UInt8.reduceToNat, ↓reduceIte, reduceEqDiff, reduceAdd, reduceCtorEq, reduceToNat, Tryz.f37, wcell, c2, c3, c6, c7, hl2, hl3]
    exact ⟨(Ext.refl h).push _, by rw [toldF, if_neg c2, if_neg c3, if_neg c6, if_pos c7]⟩
  by_cases c8 : w.kind = 8
  · simp +contextual (disch := first | (simp only [fr]; done) | omega | (simp only [Knx]; omega) | (apply Nat.le_antisymm <;> simp only [Knx] <;> omega) | fail) only [wpy, fD, reduceLE, reduceLT, reduceLeDiff, UInt8.reduceToNat, ↓reduceIte, reduceEqDiff, reduceAdd, reduceCtorEq, reduceToNat, Tryz.f37, wcell, c2, c3, c6, c7, c8]
    exact ⟨(Ext.refl h).push _, by rw [toldF, if_neg c2, if_neg c3, if_neg c6, if_neg c7, if_pos c8]⟩
  · simp +contextual (disch := first | (simp only [fr]; done) | omega | (simp only [Knx]; omega) | (apply Nat.le_antisymm <;> simp only [Knx] <;> omega) | fail) only [wpy, fD, reduceLE, reduceLT, reduceLeDiff, UInt8.reduceToNat, ↓reduceIte, reduceEqDiff, reduceAdd, reduceCtorEq, reduceToNat, Tryz.f37, wcell, c2, c3, c6, c7, c8]
    exact ⟨(Ext.refl h).push _, by rw [toldF, if_neg c2, if_neg c3, if_neg c6, if_neg c7, if_neg c8]⟩
def rplF : List (List Nat) → List Nat
  | [] => []
  | t :: r => t ++ r.flatMap fun x => 32 :: x
omit hS in
theorem rplF_snoc (l : List (List Nat)) (t : List Nat) : rplF (l ++ [t]) = (if l = [] then [] else rplF l ++ [32]) ++ t := by
  cases l with
  | nil => simp [rplF]
  | cons x r => simp [rplF, List.append_assoc]
omit hS in
theorem rplF_len {B : Nat} : ∀ {l : List (List Nat)}, (∀ t ∈ l, t.length ≤ B) → (rplF l).length ≤ l.length * (B + 1)
  | [], _ => Nat.zero_le _
  | x :: r, h => by
    have hr : ∀ r : List (List Nat), (∀ t ∈ r, t.length ≤ B) → (r.flatMap fun x => 32 :: x).length ≤ r.length * (B + 1) := by
      intro r
      induction r with
      | nil => intro _; exact Nat.zero_le _
      | cons y r ih =>
        intro h
        have h1 := ih fun t ht => h t (List.mem_cons_of_mem _ ht)
        have h2 := h y List.mem_cons_self
        rw [List.flatMap_cons, List.length_append, List.length_cons, List.length_cons, Nat.add_mul]
        omega
    have h1 := hr r fun t ht => h t (List.mem_cons_of_mem _ ht)
    have h2 := h x List.mem_cons_self
    rw [rplF, List.length_append, List.length_cons, Nat.add_mul]
    omega
omit hS in
theorem toldF_len {B : Nat} {w : WD} (h : Gw B w) : (toldF w).length ≤ 3 * B + 20 := by
  have h1 := dbl_len w.text [96] [96]
  have h2 := dbl_len w.text [39] [39, 92]
  have h3 := h.2
  simp only [List.length_cons, List.length_nil] at h1 h2
  unfold toldF rnameF rquotF
  split
  · omega
  · split
    · omega
    · split
      · rw [List.length_cons]; omega
      · split
        · rw [List.length_cons, List.length_cons]; omega
        · split
          · simp
          · omega
set_option maxHeartbeats 2000000 in
theorem rplain_spec (B N : Nat) (hN : N ≤ 10000) (hB : B ≤ 10000) (lv : V) (ws : List WD) (h : H) (ha : Wds h lv ws) (hg : Gd B N ws) : Pure S.cfg 14 [lv] h fun v _ => v = .str (rplF (ws.map toldF)) := by
  refine into Tryz.f14 _ Tryz.func14 (hS.ownR _ (by decide)) rfl rfl (by kernel_rfl) (by kernel_rfl) ?_
  have a1 := ha.len
  have hwl := hg.1
  simp +contextual (disch := first | (simp only [fr]; done) | omega | (simp only [Knx]; omega) | (apply Nat.le_antisymm <;> simp only [Knx] <;> omega) | fail) only [wpy, fD, reduceLE, reduceLT, reduceLeDiff, UInt8.reduceToNat, ↓reduceIte, reduceEqDiff, reduceAdd, reduceCtorEq, reduceToNat, Tryz.f14, a1]
  refine run_loop (fun k env h' => ∃ (i : Nat), k = ws.length - i ∧ i ≤ ws.length ∧ env 0 = lv ∧ env 3 = .str (rplF ((ws.take i).map toldF)) ∧ env 4 = .int .i64 i ∧ Ext h h') ws.length ⟨0, ?_⟩ ?_
  · simp +contextual (disch := first | (simp only [fr]; done) | omega | (simp only [Knx]; omega) | (apply Nat.le_antisymm <;> simp only [Knx] <;> omega) | fail) only [wpy, fD, reduceLE, reduceLT, reduceLeDiff, UInt8.reduceToNat, ↓reduceIte, reduceEqDiff, reduceAdd, reduceCtorEq, reduceToNat]
    first | exact ⟨by simp, rfl, Ext.refl _⟩ | exact ⟨rfl, Ext.refl _⟩ | exact ⟨by simp [rplF], Ext.refl _⟩ | exact Ext.refl _
  rintro k env h' ⟨i, rfl, hi, e0, e3, e4, hx⟩
  have hxn := hx.1
  by_cases hi2 : i < ws.length
  · obtain ⟨b, o, mc, c, fl, rfl, hbn, hgb, w0, w1⟩ := (ha.ext hx).get hi2
    have hgi : Gw B (gw ws i) := by rw [gw_eq hi2]; exact hg.2 _ (List.getElem_mem hi2)
    have hti : (gw ws i).text.length < 2 ^ 20 := by have := hgi.2; omega
    have htl := toldF_len hgi
    rw [wcell] at w1
    have hst : (ws.take (i + 1)).map toldF = (ws.take i).map toldF ++ [toldF (gw ws i)] := by rw [gw_eq hi2, List.take_succ_eq_append_getElem hi2, List.map_append]; rfl
    have hpl : (rplF ((ws.take i).map toldF)).length ≤ 10000 * 30021 := by
      have h1 := rplF_len (B := 3 * B + 20) (l := (ws.take i).map toldF) fun t ht => by
        obtain ⟨w, hw, rfl⟩ := List.mem_map.1 ht
        exact toldF_len (hg.2 w (List.mem_of_mem_take hw))
      refine Nat.le_trans h1 (Nat.mul_le_mul ?_ (by omega))
      rw [List.length_map, List.length_take]
      omega
    by_cases hz : i = 0
    · subst hz
      have e3' : env 3 = .str [] := e3
      have hb2 : 0 + (toldF (gw ws 0)).length ≤ 9223372036854775807 := by omega
      have hb3 : (toldF (gw ws 0)).length ≤ 9223372036854775807 := by omega
      simp +contextual (disch := first | (simp only [fr]; done) | omega | (simp only [Knx]; omega) | (apply Nat.le_antisymm <;> simp only [Knx] <;> omega) | fail) only [wpy, fD, reduceLE, reduceLT, reduceLeDiff, UInt8.reduceToNat, ↓reduceIte, reduceEqDiff, reduceAdd, reduceCtorEq, reduceToNat, Tryz.f14, e0, e3', e4, hi2, a1, Nat.lt_irrefl, hgb, w0, w1]
      refine callF_pure (told_spec hS _ _ hti) ?_
      rintro v h1 hx1 rfl
      simp +contextual (disch := first | (simp only [fr]; done) | omega | (simp only [Knx]; omega) | (apply Nat.le_antisymm <;> simp only [Knx] <;> omega) | fail) only [wpy, fD, reduceLE, reduceLT, reduceLeDiff, UInt8.reduceToNat, ↓reduceIte, reduceEqDiff, reduceAdd, reduceCtorEq, reduceToNat, Tryz.f14, e0, e3', e4, hb2, hb3]
      exact ⟨_, by omega, 1, rfl, by omega, by rw [show (1 : Nat) = 0 + 1 from rfl, hst]; simp [rplF], rfl, hx.trans hx1⟩
    · have hp : 0 < i := by omega
      have hb1 : (rplF ((ws.take i).map toldF)).length + 1 ≤ 9223372036854775807 := by omega
      have hb2 : (rplF ((ws.take i).map toldF)).length + 1 + (toldF (gw ws i)).length ≤ 9223372036854775807 := by omega
      simp +contextual (disch := first | (simp only [fr]; done) | omega | (simp only [Knx]; omega) | (apply Nat.le_antisymm <;> simp only [Knx] <;> omega) | fail) only [wpy, fD, reduceLE, reduceLT, reduceLeDiff, UInt8.reduceToNat, ↓reduceIte, reduceEqDiff, reduceAdd, reduceCtorEq, reduceToNat, Tryz.f14, e0, e3, e4, hi2, a1, hp, hgb, w0, w1, hb1]
      refine callF_pure (told_spec hS _ _ hti) ?_
      rintro v h1 hx1 rfl
      simp +contextual (disch := first | (simp only [fr]; done) | omega | (simp only [Knx]; omega) | (apply Nat.le_antisymm <;> simp only [Knx] <;> omega) | fail) only [wpy, fD, reduceLE, reduceLT, reduceLeDiff, UInt8.reduceToNat, ↓reduceIte, reduceEqDiff, reduceAdd, reduceCtorEq, reduceToNat, Tryz.f14, e0, e3, e4, hb1, hb2]
      exact ⟨_, by omega, i + 1, rfl, by omega, by rw [hst, rplF_snoc, if_neg (by intro q; have := congrArg List.length q; rw [List.length_map, List.length_take, List.length_nil] at this; omega)], rfl, hx.trans hx1⟩
  · have hle : i = ws.length := by omega
    subst hle
    rw [List.take_length] at e3
    simp +contextual (disch := first | (simp only [fr]; done) | omega | (simp only [Knx]; omega) | (apply Nat.le_antisymm <;> simp only [Knx] <;> omega) | fail) only [wpy, fD, reduceLE, reduceLT, reduceLeDiff, UInt8.reduceToNat, ↓reduceIte, reduceEqDiff, reduceAdd, reduceCtorEq, reduceToNat, Tryz.f14, e0, e3, e4, hi2, a1]
    first | exact hx | exact ⟨hx, rfl⟩ | trace_state
end
end Go.Proofs.YtkibhdbmamfjcaaGreatDoor
set_option maxHeartbeats 1000000
set_option linter.unusedSimpArgs false
set_option linter.unusedVariables false
set_option linter.unusedSectionVars false
set_option linter.defProp false
set_option maxRecDepth 10000
namespace Go.Proofs.YtkibhdbmamfjcaaGreatDoor
open Int (reduceLE reduceLT reduceToNat)
open Nat (reduceLeDiff reduceEqDiff reduceAdd)
open Go.Proofs Go.Lx Go.Wx Go.IntWalk
noncomputable section

def rpadZ : Nat → List Nat → List Nat
  | 0, p => p
  | f + 1, p => if p.length % 64 = 56 then p else rpadZ f (p ++ [0])
def lenL (n : Nat) : Nat → List Nat
  | 0 => []
  | j + 1 => lenL n j ++ [lenB n (7 - j)]
def padF (l : List Nat) : List Nat := rpadZ 65 (l ++ [128]) ++ lenL (l.length * 8) 8
theorem acc_len {n0 : Nat} {h : H} {v : V} {p : List Nat} (ha : Wx.Acc n0 h v (bytesV p) 5 1) : lenO (some (.slice 5)) v = some (.int .i64 p.length) := by
  rcases ha with ⟨rfl, q⟩ | ⟨b, n, _, _, rfl, _, _, hl⟩
  · have := congrArg List.length q
    rw [bytesV_len] at this
    have h0 : p.length = 0 := this
    rw [h0]
    rfl
  · rw [bytesV_len, Nat.mul_one] at hl
    rw [hl]
    rfl
theorem bytesV_app (a b : List Nat) : bytesV (a ++ b) = bytesV a ++ bytesV b := by simp [bytesV]
def padL (n : Nat) : Nat := if n % 64 ≤ 56 then 56 - n % 64 else 120 - n % 64
theorem padL_lt {n : Nat} (h : ¬ n % 64 = 56) : padL (n + 1) < padL n := by
  unfold padL
  have h1 : (n + 1) % 64 = if n % 64 = 63 then 0 else n % 64 + 1 := by split <;> omega
  rw [h1]
  split <;> split <;> split <;> omega
def rolF (x : Int) (n : Int) : Int := iOr .u32 (iShl .u32 x n) (iShr .u32 x (IntKind.u64.wrap (32 - n)))

variable {S : Set0} (hS : StdR S)
include hS
omit hS in
theorem app_byte {env : Env} {s x : Operand} {n0 : Nat} {h : H} {l : V} {p : List Nat} (a : Nat) {c : List V} (hca : c = [.int .u8 (a : Nat)]) {Ok : Nat → Prop} {K : V → H → Fp → Prop} (hsv : evalE env s = l) (hx : evalE env x = .slice h.nx 0 1 1) (ha : Wx.Acc n0 h l (bytesV p) 5 1) (hroom : p.length < 2 ^ 28) (hOk : ∀ k, n0 ≤ k → Ok k) (hn0 : n0 ≤ h.nx)
    (hK : ∀ v h' L, Wx.Acc n0 h' v (bytesV (p ++ [a])) 5 1 → h.nx < h'.nx → (∀ k, k < n0 → h'.get k = h.get k) → K v h' (.lg L)) : opW S.cfg Ok (.call ⟨.builtin .append, #[s, x], #[35, 35]⟩) env (h.push (.cells c 5 false)) K := by
  subst hca
  refine append_new (sv := l) (n0 := n0) hsv ap35 ⟨.slice 5, by kernel_rfl, rfl⟩ ha hx (n := 1) (by decide) rfl rfl ?_ (by decide) hOk hn0 ?_
  · rw [bytesV_len]
    show _ + 1 ≤ _
    omega
  · intro v h' L ha' hn' _ hf' _
    exact hK v h' L (by rw [bytesV_app]; exact ha') hn' hf'
theorem rol_spec (x : Int) (n : Nat) (h : H) (hn : n ≤ 32) : Exact S.cfg 47 [.int .u32 x, .int .u64 n] h (.int .u32 (rolF x n)) := by
  refine into Tryz.f47 _ Tryz.func47 (hS.ownR _ (by decide)) rfl rfl (by kernel_rfl) (by kernel_rfl) ?_
  have w1 : ¬ (n : Int) < 0 := by omega
  have w2 : ¬ IntKind.u64.wrap (32 - (n : Int)) < 0 := by have := wrap_u64 (32 - (n : Int)); omega
  simp +contextual (disch := first | (simp only [fr]; done) | omega | (simp only [Knx]; omega) | (apply Nat.le_antisymm <;> simp only [Knx] <;> omega) | fail) only [wpy, fD, reduceLE, reduceLT, reduceLeDiff, UInt8.reduceToNat, ↓reduceIte, reduceEqDiff, reduceAdd, reduceCtorEq, reduceToNat, Tryz.f47, w1, w2]
  first | done | rfl | trace_state
theorem rword_spec (b o n m i : Nat) (a0 a1 a2 a3 : Nat) (c : List V) (e : TypeId) (fl : Bool) (h : H) (hn : 4 * i + 4 ≤ n) (hi : i < 2 ^ 20) (hg : h.get b = some (.cells c e fl)) (g0 : c[o + 4 * i]? = some (.int .u8 (a0 : Nat))) (g1 : c[o + (4 * i + 1)]? = some (.int .u8 (a1 : Nat))) (g2 : c[o + (4 * i + 2)]? = some (.int .u8 (a2 : Nat))) (g3 : c[o + (4 * i + 3)]? = some (.int .u8 (a3 : Nat))) : Exact S.cfg 46 [.slice b o n m, .int .i64 i] h (.int .u32 (wordF a0 a1 a2 a3)) := by
  refine into Tryz.f46 _ Tryz.func46 (hS.ownR _ (by decide)) rfl rfl (by kernel_rfl) (by kernel_rfl) ?_
  have k0 : 4 * i < n := by omega
  have k1 : 4 * i + 1 < n := by omega
  have k2 : 4 * i + 2 < n := by omega
  have k3 : 4 * i + 3 < n := by omega
  have w4 : IntKind.i64.wrap (4 * (i : Int)) = ((4 * i : Nat) : Int) := by
    unfold IntKind.wrap
    simp [IntKind.signed, IntKind.bits]
    omega
  simp +contextual (disch := first | (simp only [fr]; done) | omega | (simp only [Knx]; omega) | (apply Nat.le_antisymm <;> simp only [Knx] <;> omega) | fail) only [wpy, fD, reduceLE, reduceLT, reduceLeDiff, UInt8.reduceToNat, ↓reduceIte, reduceEqDiff, reduceAdd, reduceCtorEq, reduceToNat, Tryz.f46]
  refine draw_by [] (by kernel_rfl) ?_
  simp +contextual (disch := first | (simp only [fr]; done) | omega | (simp only [Knx]; omega) | (apply Nat.le_antisymm <;> simp only [Knx] <;> omega) | fail) only [wpy, fD, reduceLE, reduceLT, reduceLeDiff, UInt8.reduceToNat, ↓reduceIte, reduceEqDiff, reduceAdd, reduceCtorEq, reduceToNat, Tryz.f46, hg, g0, g1, g2, g3, k0, k1, k2, k3, w4]
  first | exact ⟨(by intro p hp; cases hp), rfl⟩ | trace_state
set_option maxHeartbeats 2000000 in
theorem rbytes_spec (b m : Nat) (ws : List Int) (e : TypeId) (fl : Bool) (h : H) (hl : ws.length < 2 ^ 20) (hb : b < h.nx) (hg : h.get b = some (.cells (ws.map (V.int .u32)) e fl)) : Pure S.cfg 48 [.slice b 0 ws.length m] h fun v h' => Wx.Acc h.nx h' v (bytesV (outF ws)) 5 1 := by
  refine into Tryz.f48 _ Tryz.func48 (hS.ownR _ (by decide)) rfl rfl (by kernel_rfl) (by kernel_rfl) ?_
  simp +contextual (disch := first | (simp only [fr]; done) | omega | (simp only [Knx]; omega) | (apply Nat.le_antisymm <;> simp only [Knx] <;> omega) | fail) only [wpy, fD, reduceLE, reduceLT, reduceLeDiff, UInt8.reduceToNat, ↓reduceIte, reduceEqDiff, reduceAdd, reduceCtorEq, reduceToNat, Tryz.f48]
  refine run_loop (fun k env h3 => ∃ (i : Nat) (l : V), k = ws.length - i ∧ i ≤ ws.length ∧ env 0 = .slice b 0 ws.length m ∧ env 4 = .int .i64 i ∧ env 3 = l ∧ Ext h h3 ∧ Wx.Acc h.nx h3 l (bytesV (outF (ws.take i))) 5 1) ws.length ⟨0, .nilslice, ?_⟩ ?_
  · simp +contextual (disch := first | (simp only [fr]; done) | omega | (simp only [Knx]; omega) | (apply Nat.le_antisymm <;> simp only [Knx] <;> omega) | fail) only [wpy, fD, reduceLE, reduceLT, reduceLeDiff, UInt8.reduceToNat, ↓reduceIte, reduceEqDiff, reduceAdd, reduceCtorEq, reduceToNat]
    first | exact ⟨by simp, Ext.refl _, .inl ⟨rfl, rfl⟩⟩ | exact ⟨Ext.refl _, .inl ⟨rfl, rfl⟩⟩
  rintro k env h3 ⟨i, l, rfl, hi, e0, e4, e3, hx, hl3⟩
  have hc1 := hl3.cell.1
  have hc2 := hl3.cell.2
  have hxn := hx.1
  have hg3 : h3.get b = some (.cells (ws.map (V.int .u32)) e fl) := by rw [hx.2 b hb]; exact hg
  by_cases hi2 : i < ws.length
  · have gwi : (ws.map (V.int .u32))[i]? = some (.int .u32 (ws.getD i 0)) := intsV_get rfl hi2
    have hst : outF (ws.take (i + 1)) = outF (ws.take i) ++ outB (ws.getD i 0) := by
      rw [outF, List.take_succ_eq_append_getElem hi2, List.flatMap_append, List.getD_eq_getElem?_getD, List.getElem?_eq_getElem hi2]
      simp [outF]
    simp +contextual (disch := first | (simp only [fr]; done) | omega | (simp only [Knx]; omega) | (apply Nat.le_antisymm <;> simp only [Knx] <;> omega) | fail) only [wpy, fD, reduceLE, reduceLT, reduceLeDiff, UInt8.reduceToNat, ↓reduceIte, reduceEqDiff, reduceAdd, reduceCtorEq, reduceToNat, Tryz.f48, e0, e3, e4, hi2]
    refine draw_by [] (by kernel_rfl) ?_
    simp +contextual (disch := first | (simp only [fr]; done) | omega | (simp only [Knx]; omega) | (apply Nat.le_antisymm <;> simp only [Knx] <;> omega) | fail) only [wpy, fD, reduceLE, reduceLT, reduceLeDiff, UInt8.reduceToNat, ↓reduceIte, reduceEqDiff, reduceAdd, reduceCtorEq, reduceToNat, Tryz.f48, e0, e3, e4, hi2, hg3, gwi]
    refine append_new (sv := l) (n0 := h.nx) (by simp +contextual (disch := first | (simp only [fr]; done) | omega | (simp only [Knx]; omega) | (apply Nat.le_antisymm <;> simp only [Knx] <;> omega) | fail) only [wpy, fD, reduceLE, reduceLT, reduceLeDiff, UInt8.reduceToNat, ↓reduceIte, reduceEqDiff, reduceAdd, reduceCtorEq, reduceToNat]) ap35 ⟨.slice 5, by kernel_rfl, rfl⟩ hl3 (by simp +contextual (disch := first | (simp only [fr]; done) | omega | (simp only [Knx]; omega) | (apply Nat.le_antisymm <;> simp only [Knx] <;> omega) | fail) only [wpy, fD, reduceLE, reduceLT, reduceLeDiff, UInt8.reduceToNat, ↓reduceIte, reduceEqDiff, reduceAdd, reduceCtorEq, reduceToNat]) (n := 4) (by decide) rfl rfl ?_ (by decide) (fun k hk => by rw [fresh_def]; exact .inl hk) hxn ?_
    · rw [bytesV_len, outF_len, List.length_take]
      show _ + 4 ≤ _
      omega
    intro v h4 L ha4 hn4 hf4 hf5 _
    have hv1 := ha4.cell.1
    have hv2 := ha4.cell.2
    simp +contextual (disch := first | (simp only [fr]; done) | omega | (simp only [Knx]; omega) | (apply Nat.le_antisymm <;> simp only [Knx] <;> omega) | fail) only [wpy, fD, reduceLE, reduceLT, reduceLeDiff, UInt8.reduceToNat, ↓reduceIte, reduceEqDiff, reduceAdd, reduceCtorEq, reduceToNat, Tryz.f48, e0, e3, e4, hi2, hv1, hv2]
    refine ⟨(by intro p hp; cases hp), _, by omega, i + 1, v, rfl, by omega, rfl, rfl, ⟨by omega, fun k hk => by rw [hf5 k hk, hx.2 k hk]⟩, ?_⟩
    rw [hst, show bytesV (outF (ws.take i) ++ outB (ws.getD i 0)) = bytesV (outF (ws.take i)) ++ bytesV (outB (ws.getD i 0)) by simp [bytesV]]
    have hnew : bytesV (outB (ws.getD i 0)) = [.int .u8 (IntKind.u8.wrap (iShr .u32 (ws.getD i 0) 24)), .int .u8 (IntKind.u8.wrap (iShr .u32 (ws.getD i 0) 16)), .int .u8 (IntKind.u8.wrap (iShr .u32 (ws.getD i 0) 8)), .int .u8 (IntKind.u8.wrap (ws.getD i 0))] := by
      simp only [outB, bytesV, List.map_cons, List.map_nil, u8_nat]
    rw [hnew]
    exact ha4
  · have his : i = ws.length := by omega
    subst his
    rw [List.take_length] at hl3
    simp +contextual (disch := first | (simp only [fr]; done) | omega | (simp only [Knx]; omega) | (apply Nat.le_antisymm <;> simp only [Knx] <;> omega) | fail) only [wpy, fD, reduceLE, reduceLT, reduceLeDiff, UInt8.reduceToNat, ↓reduceIte, reduceEqDiff, reduceAdd, reduceCtorEq, reduceToNat, Tryz.f48, e0, e3, e4, hi2]
    first | exact ⟨hx, hl3⟩ | trace_state
theorem rconsts_spec (h : H) : Pure S.cfg 44 [] h fun v h' => ∃ b, v = .slice b 0 64 64 ∧ h.nx ≤ b ∧ b < h'.nx ∧ ∃ e fl, h'.get b = some (.cells (KL.map (V.int .u32)) e fl) := by
  refine into Tryz.f44 _ Tryz.func44 (hS.ownR _ (by decide)) rfl rfl (by kernel_rfl) (by kernel_rfl) ?_
  simp +contextual (disch := first | (simp only [fr]; done) | omega | (simp only [Knx]; omega) | (apply Nat.le_antisymm <;> simp only [Knx] <;> omega) | fail) only [wpy, fD, reduceLE, reduceLT, reduceLeDiff, UInt8.reduceToNat, ↓reduceIte, reduceEqDiff, reduceAdd, reduceCtorEq, reduceToNat, Tryz.f44]
  first | exact ⟨(Ext.refl h).push _, h.nx, rfl, Nat.le_refl _, Nat.lt_succ_self _, 56, false, by rw [push_eq rfl]; rfl⟩ | trace_state
set_option maxHeartbeats 2000000 in
theorem padded_spec (b m : Nat) (l : List Nat) (e : TypeId) (fl : Bool) (h : H) (hl : Bytes l) (hll : l.length < 2 ^ 27) (hb : b < h.nx) (hg : h.get b = some (.cells (bytesV l) e fl)) : Pure S.cfg 45 [.slice b 0 l.length m] h fun v h' => Wx.Acc h.nx h' v (bytesV (padF l)) 5 1 := by
  refine into Tryz.f45 _ Tryz.func45 (hS.ownR _ (by decide)) rfl rfl (by kernel_rfl) (by kernel_rfl) ?_
  simp +contextual (disch := first | (simp only [fr]; done) | omega | (simp only [Knx]; omega) | (apply Nat.le_antisymm <;> simp only [Knx] <;> omega) | fail) only [wpy, fD, reduceLE, reduceLT, reduceLeDiff, UInt8.reduceToNat, ↓reduceIte, reduceEqDiff, reduceAdd, reduceCtorEq, reduceToNat, Tryz.f45]
  refine append_lst (sv := .slice h.nx 0 0 0) (xv := .slice b 0 l.length m) (n0 := h.nx) (cells := []) (new := bytesV l) (by simp +contextual (disch := first | (simp only [fr]; done) | omega | (simp only [Knx]; omega) | (apply Nat.le_antisymm <;> simp only [Knx] <;> omega) | fail) only [wpy, fD, reduceLE, reduceLT, reduceLeDiff, UInt8.reduceToNat, ↓reduceIte, reduceEqDiff, reduceAdd, reduceCtorEq, reduceToNat]) (by simp +contextual (disch := first | (simp only [fr]; done) | omega | (simp only [Knx]; omega) | (apply Nat.le_antisymm <;> simp only [Knx] <;> omega) | fail) only [wpy, fD, reduceLE, reduceLT, reduceLeDiff, UInt8.reduceToNat, ↓reduceIte, reduceEqDiff, reduceAdd, reduceCtorEq, reduceToNat]) ap35 ⟨.slice 5, by kernel_rfl, rfl⟩ (.inr ⟨rfl, h.nx, Nat.le_refl _, Nat.lt_succ_self _, rfl, push_eq rfl⟩) (.inr ⟨b, 0, l.length, m, rfl, Nat.lt_succ_of_lt hb, ?_, ?_⟩) ?_ ?_ (by decide) (fun k hk => by rw [fresh_def]; exact .inl hk) (Nat.le_succ _) ?_
  · rw [push_ne (by omega), hg, Nat.mul_one]
    exact rdC_all (bytesV_len l)
  · rw [bytesV_len, Nat.mul_one]
  · simp [bytesV, V.isCell]
  · rw [bytesV_len]
    show 0 + _ ≤ _
    omega
  intro v1 h1 L1 hl1 hn1 _ hf1 _
  rw [List.nil_append] at hl1
  have hx1 : Ext h h1 := ⟨by rw [push_nx] at hn1; omega, fun k hk => by rw [hf1 k hk, push_ne (by omega)]⟩
  have hc1 : v1.cells = [v1] ∧ v1.isCell = true := by
    rcases hl1 with q | ⟨_, b', _, _, rfl, _⟩
    · exact q.cell
    · exact ⟨rfl, rfl⟩
  simp +contextual (disch := first | (simp only [fr]; done) | omega | (simp only [Knx]; omega) | (apply Nat.le_antisymm <;> simp only [Knx] <;> omega) | fail) only [wpy, fD, reduceLE, reduceLT, reduceLeDiff, UInt8.reduceToNat, ↓reduceIte, reduceEqDiff, reduceAdd, reduceCtorEq, reduceToNat, Tryz.f45, hc1.1, hc1.2]
  refine append_lst (sv := v1) (xv := .slice h1.nx 0 1 1) (n0 := h.nx) (cells := bytesV l) (new := [.int .u8 128]) (by simp +contextual (disch := first | (simp only [fr]; done) | omega | (simp only [Knx]; omega) | (apply Nat.le_antisymm <;> simp only [Knx] <;> omega) | fail) only [wpy, fD, reduceLE, reduceLT, reduceLeDiff, UInt8.reduceToNat, ↓reduceIte, reduceEqDiff, reduceAdd, reduceCtorEq, reduceToNat]) (by simp +contextual (disch := first | (simp only [fr]; done) | omega | (simp only [Knx]; omega) | (apply Nat.le_antisymm <;> simp only [Knx] <;> omega) | fail) only [wpy, fD, reduceLE, reduceLT, reduceLeDiff, UInt8.reduceToNat, ↓reduceIte, reduceEqDiff, reduceAdd, reduceCtorEq, reduceToNat]) ap35 ⟨.slice 5, by kernel_rfl, rfl⟩ (hl1.ext ((Ext.refl h1).push _)) (.inr ⟨h1.nx, 0, 1, 1, rfl, Nat.lt_succ_self _, ?_, rfl⟩) rfl ?_ (by decide) (fun k hk => by rw [fresh_def]; exact .inl hk) (by have := hx1.1; rw [push_nx]; omega) ?_
  · rw [push_eq rfl]
    rfl
  · rw [bytesV_len]
    show _ + 1 ≤ _
    omega
  intro v2 h2 L2 hl2 hn2 _ hf2 _
  have ha2 : Wx.Acc h.nx h2 v2 (bytesV (l ++ [128])) 5 1 := by
    rcases hl2 with q | ⟨q, _⟩
    · rw [bytesV_app]; exact q
    · simp at q
  have hX2 : Ext h h2 := ⟨by have := hx1.1; rw [push_nx] at hn2; omega, fun k hk => by rw [hf2 k hk, push_ne (by have := hx1.1; omega), hx1.2 k hk]⟩
  have hv1 := ha2.cell.1
  have hv2 := ha2.cell.2
  simp +contextual (disch := first | (simp only [fr]; done) | omega | (simp only [Knx]; omega) | (apply Nat.le_antisymm <;> simp only [Knx] <;> omega) | fail) only [wpy, fD, reduceLE, reduceLT, reduceLeDiff, UInt8.reduceToNat, ↓reduceIte, reduceEqDiff, reduceAdd, reduceCtorEq, reduceToNat, Tryz.f45, hv1, hv2]
  refine run_loop (fun k env h' => ∃ (p : List Nat) (f : Nat) (v : V), k = padL p.length ∧ padL p.length < f ∧ rpadZ 65 (l ++ [128]) = rpadZ f p ∧ p.length ≤ l.length + 1 + (65 - f) ∧ f ≤ 65 ∧ env 0 = .slice b 0 l.length m ∧ env 3 = v ∧ Ext h h' ∧ Wx.Acc h.nx h' v (bytesV p) 5 1) (padL (l ++ [128]).length) ⟨l ++ [128], 65, v2, ?_⟩ ?_
  · simp +contextual (disch := first | (simp only [fr]; done) | omega | (simp only [Knx]; omega) | (apply Nat.le_antisymm <;> simp only [Knx] <;> omega) | fail) only [wpy, fD, reduceLE, reduceLT, reduceLeDiff, UInt8.reduceToNat, ↓reduceIte, reduceEqDiff, reduceAdd, reduceCtorEq, reduceToNat]
    exact ⟨by unfold padL; split <;> omega, hX2, ha2⟩
  rintro k env h' ⟨p, f, v, rfl, hf, hp, hpl, hf65, e0, e3, hx, ha⟩
  obtain ⟨f, rfl⟩ : ∃ g, f = g + 1 := ⟨f - 1, by omega⟩
  rw [show rpadZ (f + 1) p = if p.length % 64 = 56 then p else rpadZ f (p ++ [0]) from rfl] at hp
  have al := acc_len ha
  have hc1 := ha.cell.1
  have hc2 := ha.cell.2
  have tm : ((p.length : Int).tmod 64) = ((p.length % 64 : Nat) : Int) := rfl
  have z64 : ((64 : Int) = 0) = False := by decide
  by_cases h56 : p.length % 64 = 56
  · rw [if_pos h56] at hp
    have h56' := eq_true h56
    have wall : IntKind.u64.wrap (l.length : Int) = ((l.length : Nat) : Int) := by
      unfold IntKind.wrap
      simp [IntKind.signed, IntKind.bits]
      omega
    have w8 : IntKind.u64.wrap ((l.length : Int) * 8) = ((l.length * 8 : Nat) : Int) := by
      unfold IntKind.wrap
      simp [IntKind.signed, IntKind.bits]
      omega
    simp +contextual (disch := first | (simp only [fr]; done) | omega | (simp only [Knx]; omega) | (apply Nat.le_antisymm <;> simp only [Knx] <;> omega) | fail) only [wpy, fD, reduceLE, reduceLT, reduceLeDiff, UInt8.reduceToNat, ↓reduceIte, reduceEqDiff, reduceAdd, reduceCtorEq, reduceToNat, Tryz.f45, e0, e3, hc1, hc2, al, tm, z64, h56', wall, w8]
    refine run_loop (fun k env2 h2 => ∃ (j : Nat) (v2 : V), k = j ∧ j ≤ 8 ∧ env2 0 = .slice b 0 l.length m ∧ env2 3 = v2 ∧ env2 4 = .int .u64 (l.length * 8 : Nat) ∧ env2 5 = .int .i64 ((j : Int) - 1) ∧ Ext h h2 ∧ Wx.Acc h.nx h2 v2 (bytesV (p ++ lenL (l.length * 8) (8 - j))) 5 1) 8 ⟨8, v, ?_⟩ ?_
    · simp +contextual (disch := first | (simp only [fr]; done) | omega | (simp only [Knx]; omega) | (apply Nat.le_antisymm <;> simp only [Knx] <;> omega) | fail) only [wpy, fD, reduceLE, reduceLT, reduceLeDiff, UInt8.reduceToNat, ↓reduceIte, reduceEqDiff, reduceAdd, reduceCtorEq, reduceToNat, e0, e3]
      exact ⟨rfl, hx, by rw [show lenL (l.length * 8) (8 - 8) = [] from rfl, List.append_nil]; exact ha⟩
    rintro k env2 h2 ⟨j, v2, hkj, hj, f0, f3, f4, f5, hx2, ha2⟩
    have hd1 := ha2.cell.1
    have hd2 := ha2.cell.2
    have hlen : ∀ j, (lenL (l.length * 8) j).length = j := by
      intro j
      induction j with
      | zero => rfl
      | succ j ih => rw [lenL, List.length_append, ih]; rfl
    by_cases hj0 : j = 0
    · subst hj0
      have hneg : ¬ (0 : Int) ≤ ((0 : Nat) : Int) - 1 := by decide
      have hfin : padF l = p ++ lenL (l.length * 8) 8 := by rw [padF, hp]
      rw [hfin]
      simp +contextual (disch := first | (simp only [fr]; done) | omega | (simp only [Knx]; omega) | (apply Nat.le_antisymm <;> simp only [Knx] <;> omega) | fail) only [wpy, fD, reduceLE, reduceLT, reduceLeDiff, UInt8.reduceToNat, ↓reduceIte, reduceEqDiff, reduceAdd, reduceCtorEq, reduceToNat, Tryz.f45, f0, f3, f4, f5, hneg, hd1, hd2]
      first | exact ⟨hx2, ha2⟩ | trace_state
    · obtain ⟨q, rfl⟩ : ∃ q, j = q + 1 := ⟨j - 1, by omega⟩
      have eq1 : (((q + 1 : Nat) : Int) - 1) = (q : Int) := by omega
      rw [eq1] at f5
      have w8q : IntKind.u64.wrap (8 * (q : Int)) = ((8 * q : Nat) : Int) := by
        unfold IntKind.wrap
        simp [IntKind.signed, IntKind.bits]
        omega
      have wq : IntKind.u64.wrap (q : Int) = ((q : Nat) : Int) := by
        unfold IntKind.wrap
        simp [IntKind.signed, IntKind.bits]
        omega
      have hlq : lenL (l.length * 8) (8 - q) = lenL (l.length * 8) (8 - (q + 1)) ++ [lenB (l.length * 8) q] := by
        rw [show 8 - q = (8 - (q + 1)) + 1 by omega, show lenL (l.length * 8) (8 - (q + 1) + 1) = lenL (l.length * 8) (8 - (q + 1)) ++ [lenB (l.length * 8) (7 - (8 - (q + 1)))] from rfl, show 7 - (8 - (q + 1)) = q by omega]
      have hq0 : ¬ 8 * q < 0 := by omega
      simp +contextual (disch := first | (simp only [fr]; done) | omega | (simp only [Knx]; omega) | (apply Nat.le_antisymm <;> simp only [Knx] <;> omega) | fail) only [wpy, fD, reduceLE, reduceLT, reduceLeDiff, UInt8.reduceToNat, ↓reduceIte, reduceEqDiff, reduceAdd, reduceCtorEq, reduceToNat, Tryz.f45, f0, f3, f4, f5, w8q, wq, hq0, hd1, hd2]
      refine app_byte (n0 := h.nx) (l := v2) (p := p ++ lenL (l.length * 8) (8 - (q + 1))) (lenB (l.length * 8) q) (by rw [lenB, u8_nat]) (by simp +contextual (disch := first | (simp only [fr]; done) | omega | (simp only [Knx]; omega) | (apply Nat.le_antisymm <;> simp only [Knx] <;> omega) | fail) only [wpy, fD, reduceLE, reduceLT, reduceLeDiff, UInt8.reduceToNat, ↓reduceIte, reduceEqDiff, reduceAdd, reduceCtorEq, reduceToNat]) (by simp +contextual (disch := first | (simp only [fr]; done) | omega | (simp only [Knx]; omega) | (apply Nat.le_antisymm <;> simp only [Knx] <;> omega) | fail) only [wpy, fD, reduceLE, reduceLT, reduceLeDiff, UInt8.reduceToNat, ↓reduceIte, reduceEqDiff, reduceAdd, reduceCtorEq, reduceToNat]) ha2 (by rw [List.length_append, hlen]; omega) (fun k hk => by rw [fresh_def]; exact .inl hk) hx2.1 ?_
      intro v4 h4 L ha4 hn4 hf4
      have hv1 := ha4.cell.1
      have hv2 := ha4.cell.2
      have wq1 : IntKind.i64.wrap ((q : Int) - 1) = (q : Int) - 1 := by
        unfold IntKind.wrap
        simp [IntKind.signed, IntKind.bits]
        omega
      simp +contextual (disch := first | (simp only [fr]; done) | omega | (simp only [Knx]; omega) | (apply Nat.le_antisymm <;> simp only [Knx] <;> omega) | fail) only [wpy, fD, reduceLE, reduceLT, reduceLeDiff, UInt8.reduceToNat, ↓reduceIte, reduceEqDiff, reduceAdd, reduceCtorEq, reduceToNat, Tryz.f45, f0, f3, f4, f5, wq1, hv1, hv2]
      exact ⟨q, by omega, q, v4, rfl, by omega, rfl, rfl, ⟨by have := hx2.1; omega, fun k hk => by rw [hf4 k hk, hx2.2 k hk]⟩, by rw [hlq, ← List.append_assoc]; exact ha4⟩
  · rw [if_neg h56] at hp
    have h56' := eq_false h56
    simp +contextual (disch := first | (simp only [fr]; done) | omega | (simp only [Knx]; omega) | (apply Nat.le_antisymm <;> simp only [Knx] <;> omega) | fail) only [wpy, fD, reduceLE, reduceLT, reduceLeDiff, UInt8.reduceToNat, ↓reduceIte, reduceEqDiff, reduceAdd, reduceCtorEq, reduceToNat, Tryz.f45, e0, e3, hc1, hc2, al, tm, z64, h56']
    refine app_byte (n0 := h.nx) (l := v) (p := p) 0 rfl (by simp +contextual (disch := first | (simp only [fr]; done) | omega | (simp only [Knx]; omega) | (apply Nat.le_antisymm <;> simp only [Knx] <;> omega) | fail) only [wpy, fD, reduceLE, reduceLT, reduceLeDiff, UInt8.reduceToNat, ↓reduceIte, reduceEqDiff, reduceAdd, reduceCtorEq, reduceToNat]) (by simp +contextual (disch := first | (simp only [fr]; done) | omega | (simp only [Knx]; omega) | (apply Nat.le_antisymm <;> simp only [Knx] <;> omega) | fail) only [wpy, fD, reduceLE, reduceLT, reduceLeDiff, UInt8.reduceToNat, ↓reduceIte, reduceEqDiff, reduceAdd, reduceCtorEq, reduceToNat]) ha (by omega) (fun k hk => by rw [fresh_def]; exact .inl hk) hx.1 ?_
    intro v4 h4 L ha4 hn4 hf4
    have hv1 := ha4.cell.1
    have hv2 := ha4.cell.2
    simp +contextual (disch := first | (simp only [fr]; done) | omega | (simp only [Knx]; omega) | (apply Nat.le_antisymm <;> simp only [Knx] <;> omega) | fail) only [wpy, fD, reduceLE, reduceLT, reduceLeDiff, UInt8.reduceToNat, ↓reduceIte, reduceEqDiff, reduceAdd, reduceCtorEq, reduceToNat, Tryz.f45, e0, e3, hv1, hv2]
    exact ⟨_, by have := padL_lt h56; exact this, p ++ [0], f, v4, by rw [List.length_append]; rfl, by rw [List.length_append]; show padL (p.length + 1) < f; have := padL_lt h56; omega, hp, by rw [List.length_append]; simp only [List.length_cons, List.length_nil]; omega, by omega, rfl, ⟨by have := hx.1; omega, fun k hk => by rw [hf4 k hk, hx.2 k hk]⟩, ha4⟩
end
end Go.Proofs.YtkibhdbmamfjcaaGreatDoor
set_option maxHeartbeats 1000000
set_option linter.unusedSimpArgs false
set_option linter.unusedVariables false
set_option linter.unusedSectionVars false
set_option linter.defProp false
set_option maxRecDepth 10000
namespace Go.Proofs.YtkibhdbmamfjcaaGreatDoor
open Int (reduceLE reduceLT reduceToNat)
open Nat (reduceLeDiff reduceEqDiff reduceAdd)
open Go.Proofs Go.Lx Go.Wx Go.IntWalk
noncomputable section

theorem ror_rol {x : Int} {n m : Int} (h : iAnd .u64 (IntKind.u64.wrap (IntKind.i64.wrap (0 - n))) 31 = m) : rolF x m = rorF x n := by
  rw [rorF, rotF, h, rolF]
theorem q15 (x : Int) : rolF x 15 = rorF x 17 := ror_rol (by kernel_rfl)
theorem q13 (x : Int) : rolF x 13 = rorF x 19 := ror_rol (by kernel_rfl)
theorem q25 (x : Int) : rolF x 25 = rorF x 7 := ror_rol (by kernel_rfl)
theorem q14 (x : Int) : rolF x 14 = rorF x 18 := ror_rol (by kernel_rfl)
theorem q26 (x : Int) : rolF x 26 = rorF x 6 := ror_rol (by kernel_rfl)
theorem q21 (x : Int) : rolF x 21 = rorF x 11 := ror_rol (by kernel_rfl)
theorem q7 (x : Int) : rolF x 7 = rorF x 25 := ror_rol (by kernel_rfl)
theorem q30 (x : Int) : rolF x 30 = rorF x 2 := ror_rol (by kernel_rfl)
theorem q19 (x : Int) : rolF x 19 = rorF x 13 := ror_rol (by kernel_rfl)
theorem q10 (x : Int) : rolF x 10 = rorF x 22 := ror_rol (by kernel_rfl)
def chunk (p : List Nat) (k : Nat) : List Nat := (p.drop (64 * k)).take 64
theorem chunk_at {p : List Nat} {k i : Nat} (hi : i < 64) : (chunk p k).getD i 0 = p.getD (64 * k + i) 0 := by
  rw [chunk, List.getD_eq_getElem?_getD, List.getD_eq_getElem?_getD, List.getElem?_take, if_pos hi, List.getElem?_drop]
def blkS (p : List Nat) : Nat → List Int
  | 0 => startL
  | k + 1 => blkF (blkS p k) (chunk p k)
theorem blkS_len (p : List Nat) : ∀ k, (blkS p k).length = 8
  | 0 => rfl
  | k + 1 => blkF_len (blkS_len p k)
theorem getD_all {l : List Nat} (h : Bytes l) (i : Nat) : l.getD i 0 < 256 := by
  rw [List.getD_eq_getElem?_getD]
  by_cases hi : i < l.length
  · rw [List.getElem?_eq_getElem hi]; exact h _ (List.getElem_mem hi)
  · rw [List.getElem?_eq_none (by omega)]; decide
theorem bytes_at {p : List Nat} {i : Nat} (hi : i < p.length) : (bytesV p)[i]? = some (.int .u8 (p.getD i 0 : Nat)) := by
  rw [bytesV_get, List.getElem?_eq_getElem hi, List.getD_eq_getElem?_getD, List.getElem?_eq_getElem hi]
  rfl

theorem looks_pairs2 {n : Nat} {l : List Fp} (N : Nat) (pairs : List (Nat × Nat)) (hp : (pairs.all fun p => Nat.blt p.1 N && Nat.blt p.2 N) = true) (h : ∀ f ∈ l.take N, Looks n f) : ∀ p ∈ pairs, ∀ a b, l[p.1]? = some a → l[p.2]? = some b → fpApart a b := by
  intro p hpm a b ha hb
  have hq := List.all_eq_true.1 hp p hpm
  rw [Bool.and_eq_true, blt_iff, blt_iff] at hq
  refine looks_apart (h a (List.mem_of_getElem? (i := p.1) ?_)) (h b (List.mem_of_getElem? (i := p.2) ?_))
  · rw [List.getElem?_take, if_pos hq.1]; exact ha
  · rw [List.getElem?_take, if_pos hq.2]; exact hb
theorem rpadZ_len : ∀ (f : Nat) (p : List Nat), (rpadZ f p).length ≤ p.length + f
  | 0, p => Nat.le_refl _
  | f + 1, p => by
    rw [rpadZ]
    split
    · omega
    · have := rpadZ_len f (p ++ [0])
      rw [List.length_append] at this
      simp only [List.length_cons, List.length_nil] at this
      omega
theorem lenL_len (n : Nat) : ∀ j, (lenL n j).length = j
  | 0 => rfl
  | j + 1 => by rw [lenL, List.length_append, lenL_len n j]; rfl
theorem padF_le (l : List Nat) : (padF l).length ≤ l.length + 74 := by
  have := rpadZ_len 65 (l ++ [128])
  rw [padF, List.length_append, lenL_len]
  rw [List.length_append] at this
  simp only [List.length_cons, List.length_nil] at this
  omega
theorem mk64 : opMakeSlice Tryz.prog 57 (.int .i64 64) (.int .i64 64) = (Lx.bnd (Lx.alloc (.cells (List.replicate 64 (V.int .u32 0)) 56 false)) fun k => Lx.ret (.slice k 0 64 64)) := by kernel_rfl

variable {S : Set0} (hS : StdR S)
include hS
omit hS in
theorem mk_words {Ok : Nat → Prop} {env : Env} {h : H} {K : V → H → Fp → Prop} (hK : K (.slice h.nx 0 64 64) (h.push (.cells (List.replicate 64 (V.int .u32 0)) 56 false)) (.lg [.wrd h.nx])) : opW S.cfg Ok (.makeSlice 57 (.const (.int .i64 64)) (.const (.int .i64 64))) env h K := by
  rw [opW_makeSlice]
  have e : opMakeSlice S.cfg.P 57 (evalE env (.const (.int .i64 64))) (evalE env (.const (.int .i64 64))) = (Lx.bnd (Lx.alloc (.cells (List.replicate 64 (V.int .u32 0)) 56 false)) fun k => Lx.ret (.slice k 0 64 64)) := mk64
  rw [e, goL_alloc, goL_ret, LogOk_cons_wrd]
  exact ⟨⟨.inl (Nat.le_refl _), LogOk_nil⟩, hK⟩
set_option maxHeartbeats 8000000 in
theorem rsum_spec (b m : Nat) (l : List Nat) (e : TypeId) (fl : Bool) (h : H) (hl : Bytes l) (hll : l.length < 2 ^ 27) (hm64 : (padF l).length % 64 = 0) (hb : b < h.nx) (hgb : h.get b = some (.cells (bytesV l) e fl)) : Pure S.cfg 17 [.slice b 0 l.length m] h fun v h' => Wx.Acc h.nx h' v (bytesV (outF (blkS (padF l) ((padF l).length / 64)))) 5 1 := by
  refine into Tryz.f17 _ Tryz.func17 (hS.ownR _ (by decide)) rfl rfl (by kernel_rfl) (by kernel_rfl) ?_
  simp +contextual (disch := first | (simp only [fr]; done) | omega | (simp only [Knx]; omega) | (apply Nat.le_antisymm <;> simp only [Knx] <;> omega) | fail) only [wpy, fD, reduceLE, reduceLT, reduceLeDiff, UInt8.reduceToNat, ↓reduceIte, reduceEqDiff, reduceAdd, reduceCtorEq, reduceToNat, Tryz.f17]
  refine callF_pure (rconsts_spec hS _) ?_
  rintro v1 h1 hx1 ⟨kb, rfl, hkb0, hkb1, ke, kfl, hgk⟩
  have hn1 : h.nx < h1.nx := by have := hx1.1; rw [push_nx] at this; omega
  have hX1 : Ext h h1 := ((Ext.refl h).push _).trans hx1
  have gh1 : h1.get h.nx = some (.cells (startL.map (V.int .u32)) 56 false) := by rw [hx1.2 h.nx (Nat.lt_succ_self _), push_eq rfl]; rfl
  simp +contextual (disch := first | (simp only [fr]; done) | omega | (simp only [Knx]; omega) | (apply Nat.le_antisymm <;> simp only [Knx] <;> omega) | fail) only [wpy, fD, reduceLE, reduceLT, reduceLeDiff, UInt8.reduceToNat, ↓reduceIte, reduceEqDiff, reduceAdd, reduceCtorEq, reduceToNat, Tryz.f17]
  refine callF_pure (padded_spec hS b m l e fl h1 hl hll (Nat.lt_of_lt_of_le hb hX1.1) (by rw [hX1.2 b hb]; exact hgb)) ?_
  intro v2 h2 hx2 ha2
  have hX2 : Ext h h2 := hX1.trans hx2
  have hpl := padF_le l
  have hpos : 0 < (padF l).length := by
    rw [padF, List.length_append, lenL_len]
    omega
  generalize padF l = p at *
  obtain ⟨M0, hM⟩ : ∃ M0, p.length = 64 * M0 := ⟨p.length / 64, by omega⟩
  have hMd : p.length / 64 = M0 := by omega
  rw [hMd]
  rcases ha2 with ⟨_, q⟩ | ⟨pb, pn, hpb0, hpb1, rfl, hpn, hgp, hpl2⟩
  · have := congrArg List.length q
    rw [bytesV_len] at this
    exact absurd this (by show ¬ p.length = 0; omega)
  rw [bytesV_len, Nat.mul_one] at hpl2
  subst hpl2
  have gh2 : h2.get h.nx = some (.cells (startL.map (V.int .u32)) 56 false) := by rw [hx2.2 h.nx hn1]; exact gh1
  have gk2 : h2.get kb = some (.cells (KL.map (V.int .u32)) ke kfl) := by rw [hx2.2 kb hkb1]; exact hgk
  have hn2 : h1.nx ≤ h2.nx := hx2.1
  have hkb : h.nx < kb := by rw [push_nx] at hkb0; omega
  simp +contextual (disch := first | (simp only [fr]; done) | omega | (simp only [Knx]; omega) | (apply Nat.le_antisymm <;> simp only [Knx] <;> omega) | fail) only [wpy, fD, reduceLE, reduceLT, reduceLeDiff, UInt8.reduceToNat, ↓reduceIte, reduceEqDiff, reduceAdd, reduceCtorEq, reduceToNat, Tryz.f17]
  refine run_loop (fun k env h' => ∃ n : Nat, k = M0 - n ∧ n ≤ M0 ∧ env 3 = .slice h.nx 0 8 8 ∧ env 4 = .slice kb 0 64 64 ∧ env 5 = .slice pb 0 p.length p.length ∧ env 6 = .int .i64 (64 * n : Nat) ∧ h2.nx ≤ h'.nx ∧ (∀ k, k < h2.nx → k ≠ h.nx → h'.get k = h2.get k) ∧ h'.get h.nx = some (.cells ((blkS p n).map (V.int .u32)) 56 false)) M0 ⟨0, ?_⟩ ?_
  · simp +contextual (disch := first | (simp only [fr]; done) | omega | (simp only [Knx]; omega) | (apply Nat.le_antisymm <;> simp only [Knx] <;> omega) | fail) only [wpy, fD, reduceLE, reduceLT, reduceLeDiff, UInt8.reduceToNat, ↓reduceIte, reduceEqDiff, reduceAdd, reduceCtorEq, reduceToNat]
    exact ⟨by omega, gh2⟩
  rintro k env h' ⟨n, rfl, hn, e3, e4, e5, e6, hnx, hst, hgh⟩
  have hgp' : h'.get pb = some (.cells (bytesV p) 5 true) := by rw [hst pb hpb1 (by omega)]; exact hgp
  have hgk' : h'.get kb = some (.cells (KL.map (V.int .u32)) ke kfl) := by rw [hst kb (by omega) (by omega)]; exact gk2
  by_cases hn2 : n < M0
  · have hlt : 64 * n < p.length := by omega
    have wl8 := blkS_len p n
    have hbs : blkS p (n + 1) = blkF (blkS p n) (chunk p n) := rfl
    generalize blkS p n = ws at *
    have hcb : Bytes (bytesV p |>.map fun _ => 0) := fun x hx => by
      obtain ⟨y, _, rfl⟩ := List.mem_map.1 hx
      decide
    simp +contextual (disch := first | (simp only [fr]; done) | omega | (simp only [Knx]; omega) | (apply Nat.le_antisymm <;> simp only [Knx] <;> omega) | fail) only [wpy, fD, reduceLE, reduceLT, reduceLeDiff, UInt8.reduceToNat, ↓reduceIte, reduceEqDiff, reduceAdd, reduceCtorEq, reduceToNat, Tryz.f17, e3, e4, e5, e6, hlt]
    refine mk_words ?_
    have hhx : h.nx ≤ h'.nx := Nat.le_trans hX2.1 hnx
    have gw0 : (h'.push (.cells (List.replicate 64 (V.int .u32 0)) 56 false)).get h'.nx = some (.cells ((wS (chunk p n) 0).map (V.int .u32)) 56 false) := by rw [push_eq rfl]; rfl
    simp +contextual (disch := first | (simp only [fr]; done) | omega | (simp only [Knx]; omega) | (apply Nat.le_antisymm <;> simp only [Knx] <;> omega) | fail) only [wpy, fD, reduceLE, reduceLT, reduceLeDiff, UInt8.reduceToNat, ↓reduceIte, reduceEqDiff, reduceAdd, reduceCtorEq, reduceToNat, Tryz.f17, e3, e4, e5, e6]
    have hrest : ∀ i, i < 64 → (bytesV p)[64 * n + i]? = some (.int .u8 ((chunk p n).getD i 0 : Nat)) := fun i hi => by rw [chunk_at hi]; exact bytes_at (by omega)
    generalize chunk p n = rest at *
    refine run_loop (fun k env2 h3 => ∃ t : Nat, k = 64 - t ∧ t ≤ 64 ∧ env2 3 = .slice h.nx 0 8 8 ∧ env2 4 = .slice kb 0 64 64 ∧ env2 5 = .slice pb 0 p.length p.length ∧ env2 6 = .int .i64 (64 * n : Nat) ∧ env2 7 = .slice h'.nx 0 64 64 ∧ env2 8 = .int .i64 t ∧ h'.nx < h3.nx ∧ (∀ k, k < h'.nx → h3.get k = h'.get k) ∧ h3.get h'.nx = some (.cells ((wS rest t).map (V.int .u32)) 56 false)) 64 ⟨0, ?_⟩ ?_
    · simp +contextual (disch := first | (simp only [fr]; done) | omega | (simp only [Knx]; omega) | (apply Nat.le_antisymm <;> simp only [Knx] <;> omega) | fail) only [wpy, fD, reduceLE, reduceLT, reduceLeDiff, UInt8.reduceToNat, ↓reduceIte, reduceEqDiff, reduceAdd, reduceCtorEq, reduceToNat, e3, e4, e5, e6]
      first | exact ⟨Nat.lt_succ_self _, fun k hk => push_ne (by omega), gw0⟩ | exact ⟨Nat.lt_succ_self _, rfl⟩ | trace_state
    rintro k env2 h3 ⟨t, rfl, ht, f3, f4, f5, f6, f7, f8, hn3, hst3, gw3⟩
    have wl := wS_len rest t
    have gp3 : h3.get pb = some (.cells (bytesV p) 5 true) := by rw [hst3 pb (by omega)]; exact hgp'
    by_cases ht2 : t < 64
    · by_cases ht3 : t < 16
      · have hset : ∀ x, listPut ((wS rest t).map (V.int .u32)) t [.int .u32 x] = ((wS rest t).set t x).map (V.int .u32) := fun x => intsV_set wl ht2 x
        simp +contextual (disch := first | (simp only [fr]; done) | omega | (simp only [Knx]; omega) | (apply Nat.le_antisymm <;> simp only [Knx] <;> omega) | fail) only [wpy, fD, reduceLE, reduceLT, reduceLeDiff, UInt8.reduceToNat, ↓reduceIte, reduceEqDiff, reduceAdd, reduceCtorEq, reduceToNat, Tryz.f17, f3, f4, f5, f6, f7, f8, ht2, ht3]
        refine slice_row (e := 5) (sz := 1) (b := pb) (o := 0) (n := p.length) (m := p.length) (l := 64 * n) (hh := p.length) (mm := p.length) (by kernel_rfl) sz5 (by simp +contextual (disch := first | (simp only [fr]; done) | omega | (simp only [Knx]; omega) | (apply Nat.le_antisymm <;> simp only [Knx] <;> omega) | fail) only [wpy, fD, reduceLE, reduceLT, reduceLeDiff, UInt8.reduceToNat, ↓reduceIte, reduceEqDiff, reduceAdd, reduceCtorEq, reduceToNat]) (by rw [gp3]; rfl) (fun _ => rfl) (by simp +contextual (disch := first | (simp only [fr]; done) | omega | (simp only [Knx]; omega) | (apply Nat.le_antisymm <;> simp only [Knx] <;> omega) | fail) only [wpy, fD, reduceLE, reduceLT, reduceLeDiff, UInt8.reduceToNat, ↓reduceIte, reduceEqDiff, reduceAdd, reduceCtorEq, reduceToNat]; exact bounds_lo (by omega) (Nat.le_refl _)) (Nat.le_refl _) ?_
        rw [Nat.mul_one, Nat.zero_add]
        simp +contextual (disch := first | (simp only [fr]; done) | omega | (simp only [Knx]; omega) | (apply Nat.le_antisymm <;> simp only [Knx] <;> omega) | fail) only [wpy, fD, reduceLE, reduceLT, reduceLeDiff, UInt8.reduceToNat, ↓reduceIte, reduceEqDiff, reduceAdd, reduceCtorEq, reduceToNat, Tryz.f17, f3, f4, f5, f6, f7, f8, ht2, ht3]
        refine callF_exact (rword_spec hS pb (64 * n) (p.length - 64 * n) (p.length - 64 * n) t (rest.getD (4 * t) 0) (rest.getD (4 * t + 1) 0) (rest.getD (4 * t + 2) 0) (rest.getD (4 * t + 3) 0) _ _ _ h3 (by omega) (by omega) gp3 (hrest _ (by omega)) (hrest _ (by omega)) (hrest _ (by omega)) (hrest _ (by omega))) ?_
        simp +contextual (disch := first | (simp only [fr]; done) | omega | (simp only [Knx]; omega) | (apply Nat.le_antisymm <;> simp only [Knx] <;> omega) | fail) only [wpy, fD, reduceLE, reduceLT, reduceLeDiff, UInt8.reduceToNat, ↓reduceIte, reduceEqDiff, reduceAdd, reduceCtorEq, reduceToNat, Tryz.f17, f3, f4, f5, f6, f7, f8, ht2, ht3, gw3, List.length_map, wl, hset]
        exact ⟨⟨by omega, .inr hhx⟩, _, by omega, t + 1, rfl, by omega, rfl, hn3, hst3, by rw [wS_succ, wv, if_pos ht3]⟩
      · obtain ⟨q, rfl⟩ : ∃ q, t = q + 16 := ⟨t - 16, by omega⟩
        have q0 : q < 64 := by omega
        have q1 : q + 1 < 64 := by omega
        have q9 : q + 9 < 64 := by omega
        have q14' : q + 14 < 64 := by omega
        have g0 := intsV_get wl q0
        have g1 := intsV_get wl q1
        have g9 := intsV_get wl q9
        have g14 := intsV_get wl q14'
        have z15 : IntKind.i64.wrap (((q + 16 : Nat) : Int) - 15) = ((q + 1 : Nat) : Int) := sub_i (q + 16) 15 (by omega) (by omega)
        have z2 : IntKind.i64.wrap (((q + 16 : Nat) : Int) - 2) = ((q + 14 : Nat) : Int) := sub_i (q + 16) 2 (by omega) (by omega)
        have z7 : IntKind.i64.wrap (((q + 16 : Nat) : Int) - 7) = ((q + 9 : Nat) : Int) := sub_i (q + 16) 7 (by omega) (by omega)
        have z16 : IntKind.i64.wrap (((q + 16 : Nat) : Int) - 16) = ((q : Nat) : Int) := sub_i (q + 16) 16 (by omega) (by omega)
        have hset : ∀ x, listPut ((wS rest (q + 16)).map (V.int .u32)) (q + 16) [.int .u32 x] = ((wS rest (q + 16)).set (q + 16) x).map (V.int .u32) := fun x => intsV_set wl ht2 x
        simp +contextual (disch := first | (simp only [fr]; done) | omega | (simp only [Knx]; omega) | (apply Nat.le_antisymm <;> simp only [Knx] <;> omega) | fail) only [wpy, fD, reduceLE, reduceLT, reduceLeDiff, UInt8.reduceToNat, ↓reduceIte, reduceEqDiff, reduceAdd, reduceCtorEq, reduceToNat, Tryz.f17, f3, f4, f5, f6, f7, f8, ht2, ht3]
        refine draw_by [] (by kernel_rfl) ?_
        simp +contextual (disch := first | (simp only [fr]; done) | omega | (simp only [Knx]; omega) | (apply Nat.le_antisymm <;> simp only [Knx] <;> omega) | fail) only [wpy, fD, reduceLE, reduceLT, reduceLeDiff, UInt8.reduceToNat, ↓reduceIte, reduceEqDiff, reduceAdd, reduceCtorEq, reduceToNat, Tryz.f17, f3, f4, f5, f6, f7, f8, ht2, gw3, g1, g14, q1, q14', z15, z2]
        refine ⟨(by intro p hp; cases hp), ?_⟩
        refine draw_by [(3, 14), (5, 14), (14, 17), (14, 19), (3, 29), (5, 29), (17, 29), (19, 29)] (by kernel_rfl) ?_
        simp +contextual (disch := first | (simp only [fr]; done) | omega | (simp only [Knx]; omega) | (apply Nat.le_antisymm <;> simp only [Knx] <;> omega) | fail) only [wpy, fD, reduceLE, reduceLT, reduceLeDiff, UInt8.reduceToNat, ↓reduceIte, reduceEqDiff, reduceAdd, reduceCtorEq, reduceToNat, Tryz.f17, f3, f4, f5, f6, f7, f8, ht2, gw3, g1, g14, q1, q14', z15, z2]
        refine callF_exact (rol_spec hS _ 15 _ (by decide)) ?_
        simp +contextual (disch := first | (simp only [fr]; done) | omega | (simp only [Knx]; omega) | (apply Nat.le_antisymm <;> simp only [Knx] <;> omega) | fail) only [wpy, fD, reduceLE, reduceLT, reduceLeDiff, UInt8.reduceToNat, ↓reduceIte, reduceEqDiff, reduceAdd, reduceCtorEq, reduceToNat, Tryz.f17, f3, f4, f5, f6, f7, f8, ht2, gw3, g0, g9, q0, q9, z7, z16, List.length_map, wl, hset, q15, q13, q25, q14]
        refine callF_exact (rol_spec hS _ 13 _ (by decide)) ?_
        simp +contextual (disch := first | (simp only [fr]; done) | omega | (simp only [Knx]; omega) | (apply Nat.le_antisymm <;> simp only [Knx] <;> omega) | fail) only [wpy, fD, reduceLE, reduceLT, reduceLeDiff, UInt8.reduceToNat, ↓reduceIte, reduceEqDiff, reduceAdd, reduceCtorEq, reduceToNat, Tryz.f17, f3, f4, f5, f6, f7, f8, ht2, gw3, g0, g9, q0, q9, z7, z16, List.length_map, wl, hset, q15, q13, q25, q14]
        refine callF_exact (rol_spec hS _ 25 _ (by decide)) ?_
        simp +contextual (disch := first | (simp only [fr]; done) | omega | (simp only [Knx]; omega) | (apply Nat.le_antisymm <;> simp only [Knx] <;> omega) | fail) only [wpy, fD, reduceLE, reduceLT, reduceLeDiff, UInt8.reduceToNat, ↓reduceIte, reduceEqDiff, reduceAdd, reduceCtorEq, reduceToNat, Tryz.f17, f3, f4, f5, f6, f7, f8, ht2, gw3, g0, g9, q0, q9, z7, z16, List.length_map, wl, hset, q15, q13, q25, q14]
        refine callF_exact (rol_spec hS _ 14 _ (by decide)) ?_
        simp +contextual (disch := first | (simp only [fr]; done) | omega | (simp only [Knx]; omega) | (apply Nat.le_antisymm <;> simp only [Knx] <;> omega) | fail) only [wpy, fD, reduceLE, reduceLT, reduceLeDiff, UInt8.reduceToNat, ↓reduceIte, reduceEqDiff, reduceAdd, reduceCtorEq, reduceToNat, Tryz.f17, f3, f4, f5, f6, f7, f8, ht2, gw3, g0, g9, q0, q9, z7, z16, List.length_map, wl, hset, q15, q13, q25, q14]
        exact ⟨⟨by omega, .inr hhx⟩, looks_pairs2 (n := h3.nx) 32 _ rfl (by
            repeat (refine List.forall_mem_cons.2 ⟨by first | exact look_nil | exact look_rd | exact look_cl, ?_⟩)
            intro f hf
            cases hf), _, by omega, q + 16 + 1, rfl, by omega, rfl, hn3, hst3, by rw [wS_succ rest (q + 16), wv, if_neg ht3]; rfl⟩
    · obtain rfl : t = 64 := by omega
      have gh3 : h3.get h.nx = some (.cells (ws.map (V.int .u32)) 56 false) := by rw [hst3 h.nx (by omega)]; exact hgh
      have hwm : (ws.map (V.int .u32)).length = 8 := by rw [List.length_map, wl8]
      simp +contextual (disch := first | (simp only [fr]; done) | omega | (simp only [Knx]; omega) | (apply Nat.le_antisymm <;> simp only [Knx] <;> omega) | fail) only [wpy, fD, reduceLE, reduceLT, reduceLeDiff, UInt8.reduceToNat, ↓reduceIte, reduceEqDiff, reduceAdd, reduceCtorEq, reduceToNat, Tryz.f17, f3, f4, f5, f6, f7, f8, ht2]
      refine append_lst (sv := .slice h3.nx 0 0 0) (xv := .slice h.nx 0 8 8) (n0 := h3.nx) (cells := []) (new := ws.map (V.int .u32)) (by simp +contextual (disch := first | (simp only [fr]; done) | omega | (simp only [Knx]; omega) | (apply Nat.le_antisymm <;> simp only [Knx] <;> omega) | fail) only [wpy, fD, reduceLE, reduceLT, reduceLeDiff, UInt8.reduceToNat, ↓reduceIte, reduceEqDiff, reduceAdd, reduceCtorEq, reduceToNat, f3]) (by simp +contextual (disch := first | (simp only [fr]; done) | omega | (simp only [Knx]; omega) | (apply Nat.le_antisymm <;> simp only [Knx] <;> omega) | fail) only [wpy, fD, reduceLE, reduceLT, reduceLeDiff, UInt8.reduceToNat, ↓reduceIte, reduceEqDiff, reduceAdd, reduceCtorEq, reduceToNat, f3]) ap57 ⟨.slice 56, by kernel_rfl, rfl⟩ (.inr ⟨rfl, h3.nx, Nat.le_refl _, Nat.lt_succ_self _, rfl, push_eq rfl⟩) (.inr ⟨h.nx, 0, 8, 8, rfl, by rw [push_nx]; omega, ?_, by rw [hwm]⟩) (by simp [V.isCell]) (by rw [hwm]; decide) (by decide) (fun k hk => by rw [fresh_def]; exact .inl (by omega)) (Nat.le_succ _) ?_
      · rw [push_ne (by omega), gh3]
        exact rdC_all hwm
      intro v4 h4 L4 hl4 hn4 _ hf4 _
      have ha4 : Wx.Acc h3.nx h4 v4 (ws.map (V.int .u32)) 56 1 := by
        rcases hl4 with q | ⟨q, _⟩
        · exact q
        · have := congrArg List.length q
          rw [List.nil_append, hwm] at this
          cases this
      rcases ha4 with ⟨_, q⟩ | ⟨vb, vn, hvb0, hvb1, rfl, hvn, hgv, hvl⟩
      · have := congrArg List.length q
        rw [hwm] at this
        cases this
      rw [hwm, Nat.mul_one] at hvl
      subst hvl
      have hn34 : h3.nx < h4.nx := by rw [push_nx] at hn4; omega
      have hst4 : ∀ k, k < h3.nx → h4.get k = h3.get k := fun k hk => by rw [hf4 k hk, push_ne (by omega)]
      generalize hW : wS rest 64 = W at *
      have hWl : W.length = 64 := by rw [← hW]; exact wS_len rest 64
      have hblk : blkF ws rest = aS ws (vS W ws 64) 8 := by rw [blkF, hW]
      simp +contextual (disch := first | (simp only [fr]; done) | omega | (simp only [Knx]; omega) | (apply Nat.le_antisymm <;> simp only [Knx] <;> omega) | fail) only [wpy, fD, reduceLE, reduceLT, reduceLeDiff, UInt8.reduceToNat, ↓reduceIte, reduceEqDiff, reduceAdd, reduceCtorEq, reduceToNat, Tryz.f17]
      refine run_loop (fun k env5 h5 => ∃ (t vb : Nat) (e5 : TypeId) (fl5 : Bool), k = 64 - t ∧ t ≤ 64 ∧ env5 3 = .slice h.nx 0 8 8 ∧ env5 4 = .slice kb 0 64 64 ∧ env5 5 = .slice pb 0 p.length p.length ∧ env5 6 = .int .i64 (64 * n : Nat) ∧ env5 7 = .slice h'.nx 0 64 64 ∧ env5 11 = .slice vb 0 8 8 ∧ env5 12 = .int .i64 t ∧ h3.nx ≤ h5.nx ∧ h3.nx ≤ vb ∧ vb < h5.nx ∧ (∀ k, k < h3.nx → h5.get k = h3.get k) ∧ h5.get vb = some (.cells ((vS W ws t).map (V.int .u32)) e5 fl5)) 64 ⟨0, vb, 56, true, ?_⟩ ?_
      · simp +contextual (disch := first | (simp only [fr]; done) | omega | (simp only [Knx]; omega) | (apply Nat.le_antisymm <;> simp only [Knx] <;> omega) | fail) only [wpy, fD, reduceLE, reduceLT, reduceLeDiff, UInt8.reduceToNat, ↓reduceIte, reduceEqDiff, reduceAdd, reduceCtorEq, reduceToNat, f3, f4, f5, f6, f7]
        exact ⟨by omega, hvb0, hvb1, hst4, hgv⟩
      rintro k env5 h5 ⟨t, vb, ve, vfl, rfl, ht, k3, k4, k5, k6, k7, k11, k12, hn5, hvb0, hvb1, hst5, gv⟩
      have vl := vS_len (W := W) (ws := ws) wl8 t
      have gw5 : h5.get h'.nx = some (.cells (W.map (V.int .u32)) 56 false) := by rw [hst5 h'.nx hn3]; exact gw3
      have gk5 : h5.get kb = some (.cells (KL.map (V.int .u32)) ke kfl) := by rw [hst5 kb (by omega), hst3 kb (by omega)]; exact hgk'
      have gh5 : h5.get h.nx = some (.cells (ws.map (V.int .u32)) 56 false) := by rw [hst5 h.nx (by omega)]; exact gh3
      by_cases ht2 : t < 64
      · have i0 := intsV_get vl (show 0 < 8 by decide)
        have i1 := intsV_get vl (show 1 < 8 by decide)
        have i2 := intsV_get vl (show 2 < 8 by decide)
        have i3 := intsV_get vl (show 3 < 8 by decide)
        have i4 := intsV_get vl (show 4 < 8 by decide)
        have i5 := intsV_get vl (show 5 < 8 by decide)
        have i6 := intsV_get vl (show 6 < 8 by decide)
        have i7 := intsV_get vl (show 7 < 8 by decide)
        have ik := intsV_get (l := KL) rfl ht2
        have iw := intsV_get hWl ht2
        have d0 : (0 : Nat) < 8 := by decide
        have d1 : (1 : Nat) < 8 := by decide
        have d2 : (2 : Nat) < 8 := by decide
        have d3 : (3 : Nat) < 8 := by decide
        have d4 : (4 : Nat) < 8 := by decide
        have d5 : (5 : Nat) < 8 := by decide
        have d6 : (6 : Nat) < 8 := by decide
        have d7 : (7 : Nat) < 8 := by decide
        simp +contextual (disch := first | (simp only [fr]; done) | omega | (simp only [Knx]; omega) | (apply Nat.le_antisymm <;> simp only [Knx] <;> omega) | fail) only [wpy, fD, reduceLE, reduceLT, reduceLeDiff, UInt8.reduceToNat, ↓reduceIte, reduceEqDiff, reduceAdd, reduceCtorEq, reduceToNat, Tryz.f17, k3, k4, k5, k6, k7, k11, k12, ht2]
        refine draw_by [(2, 6), (2, 10), (2, 15), (5, 6), (5, 10), (5, 15), (6, 9), (9, 10), (9, 15), (6, 14), (10, 14), (14, 15), (6, 20), (10, 20), (15, 20), (6, 23), (10, 23), (15, 23), (6, 27), (10, 27), (15, 27), (6, 31), (10, 31), (15, 31), (6, 38), (10, 38), (15, 38), (6, 43), (10, 43), (15, 43)] (by kernel_rfl) ?_
        simp +contextual (disch := first | (simp only [fr]; done) | omega | (simp only [Knx]; omega) | (apply Nat.le_antisymm <;> simp only [Knx] <;> omega) | fail) only [wpy, fD, reduceLE, reduceLT, reduceLeDiff, UInt8.reduceToNat, ↓reduceIte, reduceEqDiff, reduceAdd, reduceCtorEq, reduceToNat, Tryz.f17, k3, k4, k5, k6, k7, k11, k12, ht2, gv, gw5, gk5, i0, i1, i2, i3, i4, i5, i6, i7, ik, iw, d0, d1, d2, d3, d4, d5, d6, d7, q26, q21, q7, q30, q19, q10]
        refine callF_exact (rol_spec hS _ 26 _ (by decide)) ?_
        simp +contextual (disch := first | (simp only [fr]; done) | omega | (simp only [Knx]; omega) | (apply Nat.le_antisymm <;> simp only [Knx] <;> omega) | fail) only [wpy, fD, reduceLE, reduceLT, reduceLeDiff, UInt8.reduceToNat, ↓reduceIte, reduceEqDiff, reduceAdd, reduceCtorEq, reduceToNat, Tryz.f17, k3, k4, k5, k6, k7, k11, k12, ht2, gv, gw5, gk5, i0, i1, i2, i3, i4, i5, i6, i7, ik, iw, d0, d1, d2, d3, d4, d5, d6, d7, q26, q21, q7, q30, q19, q10]
        refine callF_exact (rol_spec hS _ 21 _ (by decide)) ?_
        simp +contextual (disch := first | (simp only [fr]; done) | omega | (simp only [Knx]; omega) | (apply Nat.le_antisymm <;> simp only [Knx] <;> omega) | fail) only [wpy, fD, reduceLE, reduceLT, reduceLeDiff, UInt8.reduceToNat, ↓reduceIte, reduceEqDiff, reduceAdd, reduceCtorEq, reduceToNat, Tryz.f17, k3, k4, k5, k6, k7, k11, k12, ht2, gv, gw5, gk5, i0, i1, i2, i3, i4, i5, i6, i7, ik, iw, d0, d1, d2, d3, d4, d5, d6, d7, q26, q21, q7, q30, q19, q10]
        refine callF_exact (rol_spec hS _ 7 _ (by decide)) ?_
        simp +contextual (disch := first | (simp only [fr]; done) | omega | (simp only [Knx]; omega) | (apply Nat.le_antisymm <;> simp only [Knx] <;> omega) | fail) only [wpy, fD, reduceLE, reduceLT, reduceLeDiff, UInt8.reduceToNat, ↓reduceIte, reduceEqDiff, reduceAdd, reduceCtorEq, reduceToNat, Tryz.f17, k3, k4, k5, k6, k7, k11, k12, ht2, gv, gw5, gk5, i0, i1, i2, i3, i4, i5, i6, i7, ik, iw, d0, d1, d2, d3, d4, d5, d6, d7, q26, q21, q7, q30, q19, q10]
        refine ⟨looks_pairs (n := h5.nx) (by
            repeat (refine List.forall_mem_cons.2 ⟨by first | exact look_nil | exact look_rd | exact look_cl, ?_⟩)
            intro f hf
            cases hf) _, ?_⟩
        refine draw_by [(2, 3), (2, 7), (2, 12), (3, 6), (6, 7), (6, 12), (3, 11), (7, 11), (11, 12), (3, 16), (7, 16), (12, 16), (3, 19), (7, 19), (12, 19), (3, 23), (7, 23), (12, 23), (3, 26), (7, 26), (12, 26), (3, 31), (7, 31), (12, 31), (3, 34), (7, 34), (12, 34)] (by kernel_rfl) ?_
        simp +contextual (disch := first | (simp only [fr]; done) | omega | (simp only [Knx]; omega) | (apply Nat.le_antisymm <;> simp only [Knx] <;> omega) | fail) only [wpy, fD, reduceLE, reduceLT, reduceLeDiff, UInt8.reduceToNat, ↓reduceIte, reduceEqDiff, reduceAdd, reduceCtorEq, reduceToNat, Tryz.f17, k3, k4, k5, k6, k7, k11, k12, ht2, gv, gw5, gk5, i0, i1, i2, i3, i4, i5, i6, i7, ik, iw, d0, d1, d2, d3, d4, d5, d6, d7, q26, q21, q7, q30, q19, q10]
        refine callF_exact (rol_spec hS _ 30 _ (by decide)) ?_
        simp +contextual (disch := first | (simp only [fr]; done) | omega | (simp only [Knx]; omega) | (apply Nat.le_antisymm <;> simp only [Knx] <;> omega) | fail) only [wpy, fD, reduceLE, reduceLT, reduceLeDiff, UInt8.reduceToNat, ↓reduceIte, reduceEqDiff, reduceAdd, reduceCtorEq, reduceToNat, Tryz.f17, k3, k4, k5, k6, k7, k11, k12, ht2, gv, gw5, gk5, i0, i1, i2, i3, i4, i5, i6, i7, ik, iw, d0, d1, d2, d3, d4, d5, d6, d7, q26, q21, q7, q30, q19, q10]
        refine callF_exact (rol_spec hS _ 19 _ (by decide)) ?_
        simp +contextual (disch := first | (simp only [fr]; done) | omega | (simp only [Knx]; omega) | (apply Nat.le_antisymm <;> simp only [Knx] <;> omega) | fail) only [wpy, fD, reduceLE, reduceLT, reduceLeDiff, UInt8.reduceToNat, ↓reduceIte, reduceEqDiff, reduceAdd, reduceCtorEq, reduceToNat, Tryz.f17, k3, k4, k5, k6, k7, k11, k12, ht2, gv, gw5, gk5, i0, i1, i2, i3, i4, i5, i6, i7, ik, iw, d0, d1, d2, d3, d4, d5, d6, d7, q26, q21, q7, q30, q19, q10]
        refine callF_exact (rol_spec hS _ 10 _ (by decide)) ?_
        simp +contextual (disch := first | (simp only [fr]; done) | omega | (simp only [Knx]; omega) | (apply Nat.le_antisymm <;> simp only [Knx] <;> omega) | fail) only [wpy, fD, reduceLE, reduceLT, reduceLeDiff, UInt8.reduceToNat, ↓reduceIte, reduceEqDiff, reduceAdd, reduceCtorEq, reduceToNat, Tryz.f17, k3, k4, k5, k6, k7, k11, k12, ht2, gv, gw5, gk5, i0, i1, i2, i3, i4, i5, i6, i7, ik, iw, d0, d1, d2, d3, d4, d5, d6, d7, q26, q21, q7, q30, q19, q10]
        refine ⟨looks_pairs (n := h5.nx) (by
            repeat (refine List.forall_mem_cons.2 ⟨by first | exact look_nil | exact look_rd | exact look_cl, ?_⟩)
            intro f hf
            cases hf) _, ?_⟩
        refine draw_by [] (by kernel_rfl) ?_
        simp +contextual (disch := first | (simp only [fr]; done) | omega | (simp only [Knx]; omega) | (apply Nat.le_antisymm <;> simp only [Knx] <;> omega) | fail) only [wpy, fD, reduceLE, reduceLT, reduceLeDiff, UInt8.reduceToNat, ↓reduceIte, reduceEqDiff, reduceAdd, reduceCtorEq, reduceToNat, Tryz.f17, k3, k4, k5, k6, k7, k11, k12, ht2, gv, gw5, gk5, i0, i1, i2, i3, i4, i5, i6, i7, ik, iw, d0, d1, d2, d3, d4, d5, d6, d7, q26, q21, q7, q30, q19, q10]
        exact ⟨(by intro p hp; cases hp), _, by omega, t + 1, h5.nx, 56, false, rfl, by omega, rfl, rfl, by omega, by omega, Nat.lt_succ_self _, hst5, by rw [push_eq rfl]; rfl⟩
      · obtain rfl : t = 64 := by omega
        simp +contextual (disch := first | (simp only [fr]; done) | omega | (simp only [Knx]; omega) | (apply Nat.le_antisymm <;> simp only [Knx] <;> omega) | fail) only [wpy, fD, reduceLE, reduceLT, reduceLeDiff, UInt8.reduceToNat, ↓reduceIte, reduceEqDiff, reduceAdd, reduceCtorEq, reduceToNat, Tryz.f17, k3, k4, k5, k6, k7, k11, k12, ht2]
        rw [hblk] at hbs
        generalize vS W ws 64 = v at *
        refine run_loop (fun k env6 h6 => ∃ i : Nat, k = 8 - i ∧ i ≤ 8 ∧ env6 3 = .slice h.nx 0 8 8 ∧ env6 4 = .slice kb 0 64 64 ∧ env6 5 = .slice pb 0 p.length p.length ∧ env6 6 = .int .i64 (64 * n : Nat) ∧ env6 11 = .slice vb 0 8 8 ∧ env6 15 = .int .i64 i ∧ h5.nx ≤ h6.nx ∧ (∀ k, k < h5.nx → k ≠ h.nx → h6.get k = h5.get k) ∧ h6.get h.nx = some (.cells ((aS ws v i).map (V.int .u32)) 56 false)) 8 ⟨0, ?_⟩ ?_
        · simp +contextual (disch := first | (simp only [fr]; done) | omega | (simp only [Knx]; omega) | (apply Nat.le_antisymm <;> simp only [Knx] <;> omega) | fail) only [wpy, fD, reduceLE, reduceLT, reduceLeDiff, UInt8.reduceToNat, ↓reduceIte, reduceEqDiff, reduceAdd, reduceCtorEq, reduceToNat, k3, k4, k5, k6, k11]
          exact gh5
        rintro k env6 h6 ⟨i, rfl, hi, m3, m4, m5, m6, m11, m15, hn6, hst6, gh6⟩
        have al := aS_len wl8 (v := v) i
        by_cases hi2 : i < 8
        · have ga := intsV_get al hi2
          have gvi := intsV_get vl hi2
          have gv6 : h6.get vb = some (.cells (v.map (V.int .u32)) ve vfl) := by rw [hst6 vb hvb1 (by omega)]; exact gv
          have hset : ∀ x, listPut ((aS ws v i).map (V.int .u32)) i [.int .u32 x] = ((aS ws v i).set i x).map (V.int .u32) := fun x => intsV_set al hi2 x
          simp +contextual (disch := first | (simp only [fr]; done) | omega | (simp only [Knx]; omega) | (apply Nat.le_antisymm <;> simp only [Knx] <;> omega) | fail) only [wpy, fD, reduceLE, reduceLT, reduceLeDiff, UInt8.reduceToNat, ↓reduceIte, reduceEqDiff, reduceAdd, reduceCtorEq, reduceToNat, Tryz.f17, m3, m4, m5, m6, m11, m15, hi2]
          refine draw_by [] (by kernel_rfl) ?_
          simp +contextual (disch := first | (simp only [fr]; done) | omega | (simp only [Knx]; omega) | (apply Nat.le_antisymm <;> simp only [Knx] <;> omega) | fail) only [wpy, fD, reduceLE, reduceLT, reduceLeDiff, UInt8.reduceToNat, ↓reduceIte, reduceEqDiff, reduceAdd, reduceCtorEq, reduceToNat, Tryz.f17, m3, m4, m5, m6, m11, m15, hi2, gh6, gv6, ga, gvi, List.length_map, al, hset]
          exact ⟨by omega, (by intro p hp; cases hp), _, by omega, i + 1, rfl, by omega, rfl, hn6, hst6, rfl⟩
        · obtain rfl : i = 8 := by omega
          simp +contextual (disch := first | (simp only [fr]; done) | omega | (simp only [Knx]; omega) | (apply Nat.le_antisymm <;> simp only [Knx] <;> omega) | fail) only [wpy, fD, reduceLE, reduceLT, reduceLeDiff, UInt8.reduceToNat, ↓reduceIte, reduceEqDiff, reduceAdd, reduceCtorEq, reduceToNat, Tryz.f17, m3, m4, m5, m6, m11, m15, hi2]
          exact ⟨_, by omega, n + 1, rfl, by omega, by omega, by omega, fun k hk hne => by rw [hst6 k (by omega) hne, hst5 k (by omega), hst3 k (by omega), hst k hk hne], by rw [hbs]; exact gh6⟩
  · obtain rfl : n = M0 := by omega
    have hlt : ¬ 64 * n < p.length := by omega
    simp +contextual (disch := first | (simp only [fr]; done) | omega | (simp only [Knx]; omega) | (apply Nat.le_antisymm <;> simp only [Knx] <;> omega) | fail) only [wpy, fD, reduceLE, reduceLT, reduceLeDiff, UInt8.reduceToNat, ↓reduceIte, reduceEqDiff, reduceAdd, reduceCtorEq, reduceToNat, Tryz.f17, e3, e4, e5, e6, hlt]
    refine callF_pure (rbytes_spec hS h.nx 8 (blkS p n) 56 false h' (by rw [blkS_len]; decide) (by omega) hgh |> fun q => by rw [blkS_len] at q; exact q) ?_
    intro v8 h8 hx8 ha8
    have hv1 := ha8.cell.1
    have hv2 := ha8.cell.2
    simp +contextual (disch := first | (simp only [fr]; done) | omega | (simp only [Knx]; omega) | (apply Nat.le_antisymm <;> simp only [Knx] <;> omega) | fail) only [wpy, fD, reduceLE, reduceLT, reduceLeDiff, UInt8.reduceToNat, ↓reduceIte, reduceEqDiff, reduceAdd, reduceCtorEq, reduceToNat, Tryz.f17, hv1, hv2]
    exact ⟨⟨by have := hx8.1; have := hX2.1; omega, fun k hk => by rw [hx8.2 k (by have := hX2.1; omega), hst k (by have := hX2.1; omega) (by omega), hX2.2 k hk]⟩, ha8.mono (by have := hX2.1; omega)⟩
end
end Go.Proofs.YtkibhdbmamfjcaaGreatDoor
set_option maxHeartbeats 1000000
set_option linter.unusedSimpArgs false
set_option linter.unusedVariables false
set_option linter.unusedSectionVars false
set_option linter.defProp false
set_option maxRecDepth 10000
namespace Go.Proofs.YtkibhdbmamfjcaaGreatDoor
open Int (reduceLE reduceLT reduceToNat)
open Nat (reduceLeDiff reduceEqDiff reduceAdd)
open Go.Proofs Go.Lx Go.Wx Go.IntWalk
noncomputable section

theorem addF_snoc (s : SH) (l : List Nat) (c : Nat) : addF s (l ++ [c]) = add1 (addF s l) c := by rw [addF, List.foldl_append]; rfl
theorem addF_app (s : SH) (l m : List Nat) : addF s (l ++ m) = addF (addF s l) m := by rw [addF, List.foldl_append]; rfl
theorem add1_n {s : SH} (h : s.n < 64) (c : Nat) : (add1 s c).n = (s.n + 1) % 64 := by
  unfold add1
  split
  · show s.n + 1 = _
    omega
  · show 0 = _
    omega
theorem addF_n : ∀ (l : List Nat) (s : SH), s.n < 64 → (addF s l).n = (s.n + l.length) % 64
  | [], s, h => by show s.n = _; rw [List.length_nil]; omega
  | c :: l, s, h => by
    have h1 := add1_n h c
    show (addF (add1 s c) l).n = _
    rw [addF_n l (add1 s c) (by omega), h1, List.length_cons]
    omega
theorem padZ_add : ∀ (f : Nat) (q : List Nat), padZ f (addF newS q) = addF newS (rpadZ f q)
  | 0, q => rfl
  | f + 1, q => by
    have hn : (addF newS q).n = q.length % 64 := by rw [addF_n q newS (by decide)]; show (0 + q.length) % 64 = _; rw [Nat.zero_add]
    rw [padZ, rpadZ, hn]
    split
    · rfl
    · rw [← addF_snoc]
      exact padZ_add f _
theorem lenF_add (s : SH) (n : Nat) : ∀ j, lenF s n j = addF s (lenL n j)
  | 0 => rfl
  | j + 1 => by rw [lenF, lenL, addF_snoc, lenF_add s n j]
theorem finF_add (l : List Nat) : finF (addF newS l) l.length = addF newS (padF l) := by
  rw [finF, ← addF_snoc, padZ_add, lenF_add, ← addF_app, padF]
theorem rpadZ_mod : ∀ (f : Nat) (q : List Nat), padL q.length < f → (rpadZ f q).length % 64 = 56
  | 0, q, h => absurd h (Nat.not_lt_zero _)
  | f + 1, q, h => by
    rw [rpadZ]
    split
    · assumption
    · rename_i hne
      have h1 := padL_lt hne
      refine rpadZ_mod f _ ?_
      rw [List.length_append]
      show padL (q.length + 1) < f
      omega
theorem padF_mod (l : List Nat) : (padF l).length % 64 = 0 := by
  have h1 := rpadZ_mod 65 (l ++ [128]) (by unfold padL; split <;> omega)
  rw [padF, List.length_append, lenL_len]
  omega
theorem add_part {s : SH} {c : List Nat} (hr : s.rest.length = 64) (hn : s.n = 0) (hc : c.length = 64) : ∀ j, j ≤ 63 → addF s (c.take j) = ⟨s.ws, c.take j ++ s.rest.drop j, j⟩
  | 0, _ => by
    cases s
    simp only at hn
    subst hn
    rfl
  | j + 1, h => by
    have ih := add_part hr hn hc j (by omega)
    have hj : j < c.length := by omega
    rw [List.take_succ_eq_append_getElem hj, addF_snoc, ih, add1, if_pos (by show j + 1 < 64; omega)]
    show (⟨s.ws, (c.take j ++ s.rest.drop j).set j c[j], j + 1⟩ : SH) = _
    have e : (c.take j ++ s.rest.drop j).set j c[j] = c.take j ++ [c[j]] ++ s.rest.drop (j + 1) := by
      rw [List.set_append_right _ _ (by rw [List.length_take]; omega), List.length_take, Nat.min_eq_left (by omega), Nat.sub_self, List.drop_eq_getElem_cons (by omega), List.set_cons_zero, List.append_assoc]
      rfl
    rw [e]
theorem add_chunk {s : SH} {c : List Nat} (hr : s.rest.length = 64) (hn : s.n = 0) (hc : c.length = 64) : addF s c = ⟨blkF s.ws c, c, 0⟩ := by
  have h1 := add_part hr hn hc 63 (Nat.le_refl _)
  have hj : 63 < c.length := by omega
  have h2 : c = c.take 63 ++ [c[63]] := by rw [← List.take_succ_eq_append_getElem hj, List.take_of_length_le (by omega)]
  have e : (c.take 63 ++ s.rest.drop 63).set 63 c[63] = c := by
    rw [List.set_append_right _ _ (by rw [List.length_take]; omega), List.length_take, Nat.min_eq_left (by omega), Nat.sub_self, List.drop_eq_getElem_cons (by omega), List.set_cons_zero, List.drop_eq_nil_of_le (by omega)]
    exact h2.symm
  have h3 : addF s c = add1 (addF s (c.take 63)) c[63] := by
    rw [← addF_snoc, ← h2]
  rw [h3, h1, add1, if_neg (by show ¬ 63 + 1 < 64; decide)]
  show (⟨blkF s.ws ((c.take 63 ++ s.rest.drop 63).set 63 c[63]), (c.take 63 ++ s.rest.drop 63).set 63 c[63], 0⟩ : SH) = _
  rw [e]
theorem chunk_len {p : List Nat} {k : Nat} (h : 64 * k + 64 ≤ p.length) : (chunk p k).length = 64 := by
  rw [chunk, List.length_take, List.length_drop]
  omega
theorem take_chunk (p : List Nat) (k : Nat) : p.take (64 * (k + 1)) = p.take (64 * k) ++ chunk p k := by
  rw [chunk, ← List.take_add, Nat.mul_succ]
theorem add_blocks (p : List Nat) : ∀ k, 64 * k ≤ p.length → ∃ r : List Nat, r.length = 64 ∧ addF newS (p.take (64 * k)) = ⟨blkS p k, r, 0⟩
  | 0, _ => ⟨List.replicate 64 0, List.length_replicate, rfl⟩
  | k + 1, h => by
    obtain ⟨r, h1, h2⟩ := add_blocks p k (by omega)
    refine ⟨chunk p k, chunk_len (by omega), ?_⟩
    rw [take_chunk, addF_app, h2, add_chunk h1 rfl (chunk_len (by omega))]
    rfl
theorem sha_same (l : List Nat) : outF (blkS (padF l) ((padF l).length / 64)) = shaF l := by
  have hm := padF_mod l
  rw [shaF, finF_add]
  obtain ⟨r, _, h2⟩ := add_blocks (padF l) ((padF l).length / 64) (by omega)
  rw [List.take_of_length_le (by omega)] at h2
  rw [h2]
end
end Go.Proofs.YtkibhdbmamfjcaaGreatDoor
set_option maxHeartbeats 1000000
set_option linter.unusedSimpArgs false
set_option linter.unusedVariables false
set_option linter.unusedSectionVars false
set_option linter.defProp false
set_option maxRecDepth 10000
namespace Go.Proofs.YtkibhdbmamfjcaaGreatDoor
open Int (reduceLE reduceLT reduceToNat)
open Nat (reduceLeDiff reduceEqDiff reduceAdd)
open Go.Proofs Go.Lx Go.Wx Go.IntWalk
noncomputable section

theorem gw_cons (w : WD) (l : List WD) (i : Nat) : gw (w :: l) (i + 1) = gw l i := rfl
theorem gw_head (w : WD) (l : List WD) : gw (w :: l) 0 = w := rfl
theorem rowT_nz : ∀ (l : List WD) (k : Nat), rowT l k ≠ 0 → (gw l 0).kind = 8 ∧ isS (gw l (rowT l k - 1 - k)) [[41]] ∧ k + 2 ≤ rowT l k
  | [], k, h => absurd rfl h
  | [w], k, h => absurd rfl h
  | w :: s :: r, k, h => by
    have ih := rowT_nz r (k + 2)
    rw [rowT] at h ⊢
    by_cases h1 : w.kind = 8
    · rw [if_pos h1] at h ⊢
      by_cases h2 : isS s [[41]]
      · rw [if_pos h2] at h ⊢
        refine ⟨h1, ?_, Nat.le_refl _⟩
        rw [show k + 2 - 1 - k = 0 + 1 by omega, gw_cons, gw_head]
        exact h2
      · rw [if_neg h2] at h ⊢
        by_cases h3 : isS s [[44]]
        · rw [if_pos h3] at h ⊢
          obtain ⟨_, h4, h5⟩ := ih h
          refine ⟨h1, ?_, by omega⟩
          rw [show rowT r (k + 2) - 1 - k = (rowT r (k + 2) - 1 - (k + 2)) + 1 + 1 by omega, gw_cons, gw_cons]
          exact h4
        · rw [if_neg h3] at h
          exact absurd rfl h
    · rw [if_neg h1] at h
      exact absurd rfl h
theorem row_parts : ∀ {l : List WD}, rowG l ≠ 0 → isS (gw l 0) [[40]] ∧ (gw l 1).kind = 8 ∧ isS (gw l (rowG l - 1)) [[41]]
  | [], h => absurd rfl h
  | w :: r, h => by
    rw [rowG] at h ⊢
    by_cases h1 : isS w [[40]]
    · rw [if_pos h1] at h ⊢
      obtain ⟨h2, h3, h4⟩ := rowT_nz r 1 h
      refine ⟨h1, h2, ?_⟩
      rw [show rowT r 1 - 1 = (rowT r 1 - 1 - 1) + 1 by omega, gw_cons]
      exact h3
    · rw [if_neg h1] at h
      exact absurd rfl h
theorem isS_text {w : WD} {a : List Nat} (h : isS w [a]) : w.text = a := by
  have := h.2
  simpa using this
theorem alone_row : ∀ {l : List WD}, aloneG l → rowG l = 3
  | [], h => h.elim
  | [_], h => h.elim
  | [_, _], h => h.elim
  | a :: b :: c :: r, h => by
    obtain ⟨h1, h2, h3⟩ := h
    rw [rowG, if_pos h1, rowT, if_pos h2, if_pos h3]
theorem alone_len : ∀ {l : List WD}, aloneG l → 3 ≤ l.length
  | [], h => h.elim
  | [_], h => h.elim
  | [_, _], h => h.elim
  | a :: b :: c :: r, h => by simp
def Fine (l : List WD) : Prop := ∀ i, rowG (l.drop i) ≠ 0 → aloneG (l.drop i)
theorem Fine.drop {l : List WD} (h : Fine l) (k : Nat) : Fine (l.drop k) := fun i hi => by
  rw [List.drop_drop] at hi ⊢
  exact h _ hi
theorem Fine.head {l : List WD} (h : Fine l) : rowG l ≠ 0 ↔ aloneG l := ⟨fun q => h 0 q, fun q => by rw [alone_row q]; decide⟩
theorem skip_same : ∀ (g : Nat) (l : List WD), Fine l → rskipT g l = skipT g l
  | 0, l, h => rfl
  | g + 1, l, h => by
    have h1 := (h.drop 1).head
    rw [rskipT, skipT]
    by_cases hc : l ≠ [] ∧ isS (gw l 0) [[44]] ∧ aloneG (l.drop 1)
    · have h3 := alone_row hc.2.2
      have h4 := alone_len hc.2.2
      rw [List.length_drop] at h4
      rw [if_pos hc, if_pos ⟨by omega, hc.2.1, h1.2 hc.2.2⟩, h3]
      exact skip_same g _ (h.drop _)
    · rw [if_neg hc, if_neg fun q => hc ⟨fun e => by rw [e] at q; exact absurd q.1 (by simp), q.2.1, h1.1 q.2.2⟩]
theorem Fine.skip : ∀ (g : Nat) {l : List WD}, Fine l → Fine (skipT g l)
  | 0, l, h => h
  | g + 1, l, h => by
    rw [skipT]
    split
    · exact Fine.skip g (h.drop _)
    · exact h
theorem lists_same : ∀ (f : Nat) (l : List WD), Fine l → rlistsT f l = listsT f l
  | 0, l, h => rfl
  | f + 1, l, h => by
    rw [rlistsT, listsT]
    split
    · rfl
    · by_cases hc : aloneG l
      · have h3 := alone_row hc
        rw [if_neg (h.head.2 hc), if_pos hc, h3, skip_same _ _ (h.drop 3), lists_same f _ ((h.drop 3).skip _)]
      · have h3 : rowG l = 0 := Decidable.byContradiction fun q => hc (h.head.1 q)
        rw [if_pos h3, if_neg hc, lists_same f _ (h.drop 1)]
theorem cons_gw {l : List WD} (h : l ≠ []) : l = gw l 0 :: l.drop 1 := by
  cases l with
  | nil => exact absurd rfl h
  | cons w r => rfl
theorem rowT_kind {w : WD} {r : List WD} {k : Nat} (h : rowT (w :: r) k ≠ 0) : w.kind = 8 := (rowT_nz (w :: r) k h).1
theorem rows_row : ∀ (f : Nat) (l : List WD) (k : Nat), rowT (rowsT f l) k ≠ 0 → rowT l k ≠ 0
  | 0, l, k, h => absurd rfl h
  | 1, l, k, h => by
    rw [rowsT] at h
    split at h
    · exact absurd rfl h
    · split at h
      · exact absurd rfl h
      · rename_i h1
        have h2 := rowT_kind h
        have h3 := (row_parts h1).1.1
        omega
  | f + 2, l, k, h => by
    have ih := rows_row f
    rw [show rowsT (f + 2) l = if l = [] then [] else if rowG l = 0 then gw l 0 :: rowsT (f + 1) (l.drop 1) else gw l 0 :: gw l 1 :: gw l (rowG l - 1) :: rowsT (f + 1) (l.drop (rowG l)) from rfl] at h
    split at h
    · exact absurd rfl h
    · rename_i hne
      split at h
      · rename_i h0
        have hk := rowT_kind h
        rw [cons_gw hne]
        generalize gw l 0 = w at *
        generalize l.drop 1 = l1 at *
        rw [show rowsT (f + 1) l1 = if l1 = [] then [] else if rowG l1 = 0 then gw l1 0 :: rowsT f (l1.drop 1) else gw l1 0 :: gw l1 1 :: gw l1 (rowG l1 - 1) :: rowsT f (l1.drop (rowG l1)) from rfl] at h
        split at h
        · exact absurd rfl h
        · rename_i hne1
          rw [cons_gw hne1]
          split at h
          · rename_i h01
            generalize gw l1 0 = s at *
            generalize l1.drop 1 = l2 at *
            rw [rowT, if_pos hk] at h ⊢
            split
            · omega
            · rename_i h41
              rw [if_neg h41] at h
              split at h
              · rename_i h44
                rw [if_pos h44]
                exact ih _ _ h
              · exact absurd rfl h
          · rename_i h01
            have hs := (row_parts h01).1
            generalize gw l1 0 = s at *
            rw [rowT, if_pos hk] at h
            split at h
            · rename_i h41
              have := isS_text hs
              rw [isS_text h41] at this
              exact absurd this (by decide)
            · split at h
              · rename_i h44
                have := isS_text hs
                rw [isS_text h44] at this
                exact absurd this (by decide)
              · exact absurd rfl h
      · rename_i h1
        have h2 := rowT_kind h
        have h3 := (row_parts h1).1.1
        omega
theorem fine_nil : Fine [] := fun i h => by rw [List.drop_nil] at h; exact absurd rfl h
theorem fine_cons {w : WD} {l : List WD} (h0 : rowG (w :: l) ≠ 0 → aloneG (w :: l)) (h : Fine l) : Fine (w :: l)
  | 0 => h0
  | i + 1 => h i
theorem fine_rows : ∀ (f : Nat) (l : List WD), Fine (rowsT f l)
  | 0, l => fine_nil
  | f + 1, l => by
    rw [rowsT]
    split
    · exact fine_nil
    · rename_i hne
      split
      · rename_i h0
        refine fine_cons (fun q => ?_) (fine_rows f _)
        exfalso
        rw [rowG] at q
        split at q
        · rename_i h40
          have h1 := rows_row f _ _ q
          rw [cons_gw hne, rowG, if_pos h40] at h0
          exact h1 h0
        · exact q rfl
      · rename_i h0
        obtain ⟨p1, p2, p3⟩ := row_parts h0
        refine fine_cons (fun _ => ⟨p1, p2, p3⟩) (fine_cons (fun q => ?_) (fine_cons (fun q => ?_) (fine_rows f _)))
        · have := (row_parts q).1.1
          rw [gw_head] at this
          omega
        · have h1 := isS_text (row_parts q).1
          rw [gw_head, isS_text p3] at h1
          exact absurd h1 (by decide)
theorem words_same (ws : List WD) : rwordsF ws = wordsF ws := by
  have e : rlistsT ((rowsF (sigF (valF ws))).length + 1) (rowsF (sigF (valF ws))) = listsF (rowsF (sigF (valF ws))) := lists_same _ _ (fine_rows _ _)
  rw [rwordsF, wordsF, e]
open Go.Lib in
theorem repl_u (x : UInt8) : ∀ s : List UInt8, replaceK [x] [x, x] (count s [x]) s = s.flatMap fun c => if c = x then [x, x] else [c]
  | [] => by
    have h : index [] [x] = -1 := rfl
    rw [count_miss h]
    rfl
  | b :: l => by
    have ih := repl_u x l
    have hx : [x] ≠ [] := by simp
    rw [List.flatMap_cons]
    by_cases hb : b = x
    · have h0 : index (b :: l) [x] = ((0 : Nat) : Int) := by
        rw [index, if_pos (by simp [hb])]
        rfl
      have hc := count_hit hx h0
      rw [show (b :: l).drop (0 + [x].length) = l from rfl] at hc
      rw [hc, Nat.add_comm, replaceK_hit _ _ _ _ 0 h0, show (b :: l).drop (0 + [x].length) = l from rfl, ih, if_pos hb]
      rfl
    · have hp : ¬ ([x].isPrefixOf (b :: l) = true) := by simp; exact fun e => hb e.symm
      rw [if_neg hb]
      by_cases hm : index l [x] = -1
      · have h0 : index (b :: l) [x] = -1 := by rw [index, if_neg hp, if_pos (by simp [hm])]
        rw [count_miss h0]
        rw [count_miss hm] at ih
        rw [← ih]
        rfl
      · obtain ⟨i, hi⟩ : ∃ i : Nat, index l [x] = i := ⟨(index l [x]).toNat, by have := index_ge l [x]; omega⟩
        have h0 : index (b :: l) [x] = ((i + 1 : Nat) : Int) := by
          rw [index, if_neg hp, if_neg (by simpa using hm), hi]
          omega
        have hc := count_hit hx h0
        have hc2 := count_hit hx hi
        have e1 : (b :: l).drop (i + 1 + [x].length) = l.drop (i + [x].length) := by
          rw [Nat.add_right_comm]
          rfl
        rw [e1] at hc
        rw [hc2, Nat.add_comm, replaceK_hit _ _ _ _ i hi] at ih
        rw [hc, Nat.add_comm, replaceK_hit _ _ _ _ (i + 1) h0, e1, ← ih]
        rfl
theorem toN_toU {s : List Nat} (h : Bytes s) : toN (toU s) = s := by
  unfold toN toU
  rw [List.map_map]
  conv => rhs; rw [← List.map_id s]
  apply List.map_congr_left
  intro x hx
  have := h x hx
  simp [UInt8.toNat_ofNat']
  omega
theorem toN_app (a b : List UInt8) : toN (a ++ b) = toN a ++ toN b := List.map_append
theorem repl_one {s : List Nat} (h : Bytes s) {x : Nat} (hx : x < 256) : replF s [x] [x, x] = s.flatMap fun c => if c = x then [x, x] else [c] := by
  have e1 : Go.Lib.replaceAll (toU s) (toU [x]) (toU [x, x]) = (toU s).flatMap fun c => if c = UInt8.ofNat x then [UInt8.ofNat x, UInt8.ofNat x] else [c] := by
    unfold Go.Lib.replaceAll Go.Lib.replace
    rw [if_neg (by simp [toU]), show Go.Lib.replaceNum (toU s) (toU [x]) (-1) = Go.Lib.count (toU s) (toU [x]) by unfold Go.Lib.replaceNum; rw [if_pos (.inl (by decide))]]
    exact repl_u _ _
  rw [replF, e1]
  clear e1
  induction s with
  | nil => rfl
  | cons c s ih =>
    have hc : c < 256 := h c List.mem_cons_self
    have ih := ih fun y hy => h y (List.mem_cons_of_mem _ hy)
    rw [List.flatMap_cons, ← ih]
    rw [show toU (c :: s) = UInt8.ofNat c :: toU s from rfl, List.flatMap_cons, toN_app]
    have hiff : (UInt8.ofNat c = UInt8.ofNat x) ↔ c = x := by
      constructor
      · intro q
        have := congrArg UInt8.toNat q
        simp [UInt8.toNat_ofNat'] at this
        omega
      · rintro rfl; rfl
    have tx : (UInt8.ofNat x).toNat = x := by simp [UInt8.toNat_ofNat']; omega
    have tc : (UInt8.ofNat c).toNat = c := by simp [UInt8.toNat_ofNat']; omega
    by_cases hcx : c = x
    · rw [if_pos (hiff.2 hcx), if_pos hcx]
      simp only [toN, List.map_cons, List.map_nil, tx]
    · rw [if_neg (fun q => hcx (hiff.1 q)), if_neg hcx]
      simp only [toN, List.map_cons, List.map_nil, tc]
theorem tick_same {s : List Nat} (h : Bytes s) : rnameF s = tickF s := by
  rw [rnameF, dbl, tickF, repl_one h (by decide)]
  congr 2
  congr 1
  funext c
  by_cases hc : c = 96
  · subst hc; rfl
  · simp [inn, hc]
theorem quote_same {s : List Nat} (h : Bytes s) : rquotF s = quoteF s := by
  have hb : Bytes (replF s [92] [92, 92]) := bytes_repl _ _ _
  rw [rquotF, dbl, quoteF, repl_one hb (by decide), repl_one h (by decide), List.flatMap_assoc]
  congr 2
  congr 1
  funext c
  by_cases h1 : c = 39
  · subst h1; rfl
  · by_cases h2 : c = 92
    · subst h2; rfl
    · simp [inn, h1, h2]
theorem told_same {w : WD} (h : Bytes w.text) : toldF w = tellF w := by
  unfold toldF tellF
  rw [tick_same h, quote_same h]
  rfl
theorem plain_same {ts : List (List Nat)} (h : ∀ t ∈ ts, Bytes t) : rplF ts = joinF ts [32] := by
  cases ts with
  | nil => rfl
  | cons t r =>
    rw [rplF, joinF, List.map_cons, Go.Lib.join_cons]
    have h1 : toN (toU t) = t := toN_toU (h t List.mem_cons_self)
    have h2 : ∀ r : List (List Nat), (∀ t ∈ r, Bytes t) → toN (Go.Lib.joinTail (toU [32]) (r.map toU)) = r.flatMap fun x => 32 :: x := by
      intro r
      induction r with
      | nil => intro _; rfl
      | cons x r ih =>
        intro hr
        have ih := ih fun t ht => hr t (List.mem_cons_of_mem _ ht)
        have hx := toN_toU (hr x List.mem_cons_self)
        rw [List.flatMap_cons, ← ih]
        simp only [Go.Lib.joinTail, List.map_cons, List.flatten_cons, toN, List.map_append] at *
        rw [hx]
        rfl
    rw [← h2 r fun t ht => h t (List.mem_cons_of_mem _ ht)]
    simp only [toN, List.map_append] at *
    rw [h1]
end
end Go.Proofs.YtkibhdbmamfjcaaGreatDoor
set_option maxHeartbeats 1000000
set_option linter.unusedSimpArgs false
set_option linter.unusedVariables false
set_option linter.unusedSectionVars false
set_option linter.defProp false
set_option maxRecDepth 10000
namespace Go.Proofs.YtkibhdbmamfjcaaGreatDoor
open Int (reduceLE reduceLT reduceToNat)
open Nat (reduceLeDiff reduceEqDiff reduceAdd)
open Go.Proofs Go.Lx Go.Wx Go.IntWalk
noncomputable section

theorem dagg_eql (q : Bool) (a b c d : Int) : binV Tryz.prog .eql 25 q (.agg [.int .i64 a, .int .i64 b]) (.agg [.int .i64 c, .int .i64 d]) = some (bo (a = c ∧ b = d)) := by
  have : binV Tryz.prog .eql 25 q (.agg [.int .i64 a, .int .i64 b]) (.agg [.int .i64 c, .int .i64 d]) = eqOpV Tryz.prog .eql 25 (.agg [.int .i64 a, .int .i64 b]) (.agg [.int .i64 c, .int .i64 d]) := rfl
  rw [this, eqOpV, eq25]
  unfold bo
  by_cases h : a = c ∧ b = d <;> simp [h]

variable {S : Set0} (hS : StdR S)
include hS
set_option maxHeartbeats 2000000 in
theorem rtext_spec (s : List Nat) (h : H) (hb : Bytes s) (hs : s.length ≤ 10000) : Pure S.cfg 6 [.str s] h fun v _ => v = (digF s).v := by
  refine into Tryz.f6 _ Tryz.func6 (hS.ownR _ (by decide)) rfl rfl (by kernel_rfl) (by kernel_rfl) ?_
  simp +contextual (disch := first | (simp only [fr]; done) | omega | (simp only [Knx]; omega) | (apply Nat.le_antisymm <;> simp only [Knx] <;> omega) | fail) only [wpy, fD, reduceLE, reduceLT, reduceLeDiff, UInt8.reduceToNat, ↓reduceIte, reduceEqDiff, reduceAdd, reduceCtorEq, reduceToNat, Tryz.f6]
  refine callF_pure (rall_spec hS.toStd s _ hb (by omega)) ?_
  intro v h1 hx hv
  have hX1 : Ext h h1 := ((Ext.refl h).push _).trans hx
  have hle := hx.1
  have n1 : ¬ h.nx = h1.nx := by rw [push_nx] at hle; omega
  have g1 : h1.get h.nx = some (.cells [.int .i64 0, .int .i64 0] 25 false) := by rw [hx.2 h.nx (Nat.lt_succ_self _), push_eq rfl]
  unfold allV at hv
  rw [if_neg (by omega)] at hv
  have hdig : digF s = match allF s with
    | .inl ws => ⟨joinF ((wordsF ws).map tellF) [32], 0, 0⟩
    | .inr (e, p) => ⟨[], e, p⟩ := by rw [digF, if_neg (by omega)] <;> (cases allF s <;> rfl)
  rw [hdig]
  cases hA : allF s with
  | inl ws =>
    rw [hA] at hv
    obtain ⟨l, rfl, hl⟩ := hv
    have hc1 := hl.cell.1
    have hc2 := hl.cell.2
    have hgood := allF_good hb hA
    have hgw := wordsF_good hgood
    simp +contextual (disch := first | (simp only [fr]; done) | omega | (simp only [Knx]; omega) | (apply Nat.le_antisymm <;> simp only [Knx] <;> omega) | fail) only [wpy, fD, reduceLE, reduceLT, reduceLeDiff, UInt8.reduceToNat, ↓reduceIte, reduceEqDiff, reduceAdd, reduceCtorEq, reduceToNat, Tryz.f6, hc1, hc2, dagg_neq, n1, g1]
    refine ⟨.inr hX1.1, draw_by [(1, 3), (2, 3)] (by kernel_rfl) ?_⟩
    simp +contextual (disch := first | (simp only [fr]; done) | omega | (simp only [Knx]; omega) | (apply Nat.le_antisymm <;> simp only [Knx] <;> omega) | fail) only [wpy, fD, reduceLE, reduceLT, reduceLeDiff, UInt8.reduceToNat, ↓reduceIte, reduceEqDiff, reduceAdd, reduceCtorEq, reduceToNat, Tryz.f6, hc1, hc2, dagg_neq, n1, g1]
    refine callF_pure (rwords_spec hS l ws _ ((Wds.of_acc hl).ext (Ext.new _ _ _)) (by have := hgood.1; omega)) ?_
    intro v2 h2 hx2 hw2
    rw [words_same] at hw2
    have hi2 := hw2.cell
    have hX2 : Ext h h2 := (hX1.trans (Ext.new _ _ _)).trans hx2
    have hn2 : h1.nx + 1 ≤ h2.nx := hx2.1
    have g2 : h2.get h.nx = some (.cells [.int .i64 0, .int .i64 0] 25 false) := by rw [hx2.2 h.nx (by rw [put_nx, push_nx]; rw [push_nx] at hle; omega), put_ne n1, push_ne n1]; exact g1
    have f2 : h2.get h1.nx = some (.cells [.int .i64 0, .int .i64 0] 25 false) := by rw [hx2.2 h1.nx (Nat.lt_succ_self _), put_eq rfl]
    simp +contextual (disch := first | (simp only [fr]; done) | omega | (simp only [Knx]; omega) | (apply Nat.le_antisymm <;> simp only [Knx] <;> omega) | fail) only [wpy, fD, reduceLE, reduceLT, reduceLeDiff, UInt8.reduceToNat, ↓reduceIte, reduceEqDiff, reduceAdd, reduceCtorEq, reduceToNat, Tryz.f6, hi2.1, hi2.2]
    refine callF_pure (rplain_spec hS s.length s.length hs hs v2 _ h2 hw2 hgw) ?_
    rintro v3 h3 hx3 rfl
    have hpl : rplF ((wordsF ws).map toldF) = joinF ((wordsF ws).map tellF) [32] := by
      have hm : (wordsF ws).map toldF = (wordsF ws).map tellF := List.map_congr_left fun w hw => told_same (hgw.2 w hw).1
      rw [hm]
      exact plain_same fun t ht => by
        obtain ⟨w, hw, rfl⟩ := List.mem_map.1 ht
        exact (tellF_ok (hgw.2 w hw)).1
    rw [hpl]
    have g3 : h3.get h.nx = some (.cells [.int .i64 0, .int .i64 0] 25 false) := by rw [hx3.2 h.nx (by rw [push_nx] at hle; omega)]; exact g2
    have f3 : h3.get h1.nx = some (.cells [.int .i64 0, .int .i64 0] 25 false) := by rw [hx3.2 h1.nx (by omega)]; exact f2
    simp +contextual (disch := first | (simp only [fr]; done) | omega | (simp only [Knx]; omega) | (apply Nat.le_antisymm <;> simp only [Knx] <;> omega) | fail) only [wpy, fD, reduceLE, reduceLT, reduceLeDiff, UInt8.reduceToNat, ↓reduceIte, reduceEqDiff, reduceAdd, reduceCtorEq, reduceToNat, Tryz.f6, g3, f3, n1]
    refine ⟨fun q hq => ?_, (hX2.trans hx3).put (Nat.le_refl _) _, rfl⟩
    have hq : q = (1, 3) ∨ q = (2, 3) := by simpa using hq
    have hrd : ∀ n0 n2 : Nat, h1.nx < n0 → fpApart (.cl n0 n2 nil1) (.lg (ldL (some (2, true)) (V.ptr h1.nx 0))) := fun n0 n2 hlt e he => by
      have he : e = .rd h1.nx 0 2 := by simpa [ldL, rdNn] using he
      subst he
      exact .inr ⟨rfl, hlt, fun q => q⟩
    rcases hq with rfl | rfl
    · exact pair_one rfl rfl (hrd _ _ (Nat.lt_succ_self _))
    · exact pair_one rfl rfl (hrd _ _ (by omega))
  | inr ep =>
    obtain ⟨e, p⟩ := ep
    rw [hA] at hv
    subst hv
    have he := allR_err _ _ _ _ _ hA
    have he' : ¬ (e = 0 ∧ p = 0) := by omega
    simp +contextual (disch := first | (simp only [fr]; done) | omega | (simp only [Knx]; omega) | (apply Nat.le_antisymm <;> simp only [Knx] <;> omega) | fail) only [wpy, fD, reduceLE, reduceLT, reduceLeDiff, UInt8.reduceToNat, ↓reduceIte, reduceEqDiff, reduceAdd, reduceCtorEq, reduceToNat, Tryz.f6, dagg_neq, he', n1, g1]
    refine ⟨.inr hX1.1, draw_by [] (by kernel_rfl) ?_⟩
    simp +contextual (disch := first | (simp only [fr]; done) | omega | (simp only [Knx]; omega) | (apply Nat.le_antisymm <;> simp only [Knx] <;> omega) | fail) only [wpy, fD, reduceLE, reduceLT, reduceLeDiff, UInt8.reduceToNat, ↓reduceIte, reduceEqDiff, reduceAdd, reduceCtorEq, reduceToNat, Tryz.f6, n1, g1]
    first | exact ⟨(by intro p hp; cases hp), ((hX1.push _).put hX1.1 _).put (Nat.le_refl _) _, rfl⟩ | trace_state
set_option maxHeartbeats 4000000 in
theorem rof_spec (s : List Nat) (h : H) (hb : Bytes s) (hs : s.length ≤ 2000) : Pure S.cfg 8 [.str s] h fun v _ => v = .tuple [.str (if (digF s).e = 0 ∧ (digF s).p = 0 then hexF ((shaF (digF s).t).take 8) else []), .agg [.int .i64 (digF s).e, .int .i64 (digF s).p]] := by
  refine into Tryz.f8 _ Tryz.func8 (hS.ownR _ (by decide)) rfl rfl (by kernel_rfl) (by kernel_rfl) ?_
  simp +contextual (disch := first | (simp only [fr]; done) | omega | (simp only [Knx]; omega) | (apply Nat.le_antisymm <;> simp only [Knx] <;> omega) | fail) only [wpy, fD, reduceLE, reduceLT, reduceLeDiff, UInt8.reduceToNat, ↓reduceIte, reduceEqDiff, reduceAdd, reduceCtorEq, reduceToNat, Tryz.f8]
  refine callF_pure (rtext_spec hS s _ hb (by omega)) ?_
  obtain ⟨k1, k2, k3⟩ := digF_ok hb hs
  have k4 := k2
  rintro v h1 hx1 rfl
  have hX1 : Ext h h1 := ((Ext.refl h).push _).trans hx1
  have g1 : h1.get h.nx = some (.cells [.int .i64 0, .int .i64 0] 25 false) := by rw [hx1.2 h.nx (Nat.lt_succ_self _), push_eq rfl]
  have n1 : ¬ h.nx = h1.nx := by have := hx1.1; rw [push_nx] at this; omega
  have hTv : (digF s).v = .tuple [.str (digF s).t, .agg [.int .i64 (digF s).e, .int .i64 (digF s).p]] := rfl
  rw [hTv]
  generalize digF s = T at *
  by_cases hf : T.e = 0 ∧ T.p = 0
  · rw [if_pos hf]
    have hf' := eq_true hf
    obtain ⟨f1, f2⟩ := hf
    simp +contextual (disch := first | (simp only [fr]; done) | omega | (simp only [Knx]; omega) | (apply Nat.le_antisymm <;> simp only [Knx] <;> omega) | fail) only [wpy, fD, reduceLE, reduceLT, reduceLeDiff, UInt8.reduceToNat, ↓reduceIte, reduceEqDiff, reduceAdd, reduceCtorEq, reduceToNat, Tryz.f8, dagg_neq, hf', g1, n1]
    refine ⟨.inr hX1.1, callF_pure (rsum_spec hS (h1.nx + 1) T.t.length T.t 5 true _ k1 k4 (padF_mod _) (by show h1.nx + 1 < h1.nx + 1 + 1; omega) (push_eq rfl)) ?_⟩
    intro v2 h2 hx2 ha2
    rw [sha_same] at ha2
    have hX2 : Ext h h2 := (hX1.trans ((Ext.new h1 _ _).push _)).trans hx2
    have hsl := shaF_len k1
    have hnn : h.nx < h1.nx := by have := hx1.1; simp only [push_nx] at this; omega
    have g2 : h2.get h.nx = some (.cells [.int .i64 0, .int .i64 0] 25 false) := by
      rw [hx2.2 h.nx (by simp only [push_nx, put_nx]; omega), push_ne (by simp only [push_nx, put_nx]; omega), put_ne (by omega), push_ne (by omega)]
      exact g1
    have f2 : h2.get h1.nx = some (.cells [.int .i64 T.e, .int .i64 T.p] 25 false) := by
      rw [hx2.2 h1.nx (by simp only [push_nx, put_nx]; omega), push_ne (by simp only [push_nx, put_nx]; omega), put_eq rfl]
    have hn2 : h1.nx < h2.nx := by
      have h3 := hx2.1
      simp only [push_nx, put_nx] at h3
      omega
    rcases ha2 with ⟨_, q⟩ | ⟨b, n, hb0, hb1, rfl, hn, hg, hl⟩
    · have := congrArg List.length q
      rw [bytesV_len, hsl] at this
      cases this
    rw [bytesV_len, hsl, Nat.mul_one] at hl
    subst hl
    have hsb : Bytes (shaF T.t) := outF_bytes _
    generalize shaF T.t = hs at *
    simp +contextual (disch := first | (simp only [fr]; done) | omega | (simp only [Knx]; omega) | (apply Nat.le_antisymm <;> simp only [Knx] <;> omega) | fail) only [wpy, fD, reduceLE, reduceLT, reduceLeDiff, UInt8.reduceToNat, ↓reduceIte, reduceEqDiff, reduceAdd, reduceCtorEq, reduceToNat, Tryz.f8]
    refine run_loop (fun k env h' => ∃ (i : Nat), k = 8 - i ∧ i ≤ 8 ∧ env 3 = .ptr h.nx 0 ∧ env 5 = .ptr h1.nx 0 ∧ env 6 = .slice b 0 32 32 ∧ env 7 = .str (hexF (hs.take i)) ∧ env 8 = .int .i64 i ∧ Ext h2 h') 8 ⟨0, ?_⟩ ?_
    · simp +contextual (disch := first | (simp only [fr]; done) | omega | (simp only [Knx]; omega) | (apply Nat.le_antisymm <;> simp only [Knx] <;> omega) | fail) only [wpy, fD, reduceLE, reduceLT, reduceLeDiff, UInt8.reduceToNat, ↓reduceIte, reduceEqDiff, reduceAdd, reduceCtorEq, reduceToNat]
      first | exact ⟨rfl, Ext.refl _⟩ | exact Ext.refl _ | trace_state
    rintro k env h' ⟨i, rfl, hi, e3, e5, e6, e7, e8, hx⟩
    have hgb : h'.get b = some (.cells (bytesV hs) 5 true) := by rw [hx.2 b hb1]; exact hg
    by_cases hi2 : i < 8
    · have hxb : hs.getD i 0 < 256 := getD_all hsb i
      have hgx : (bytesV hs)[i]? = some (.int .u8 (hs.getD i 0 : Nat)) := bytes_at (by omega)
      have hst : hexF (hs.take (i + 1)) = hexF (hs.take i) ++ hexB (hs.getD i 0) := by
        rw [hexF, List.take_succ_eq_append_getElem (by omega), List.flatMap_append, List.getD_eq_getElem?_getD, List.getElem?_eq_getElem (by omega)]
        simp [hexF]
      have hhl := hexF_len (hs.take i)
      rw [List.length_take] at hhl
      generalize hs.getD i 0 = x at *
      have t16 : ((x : Int).tdiv 16) = ((x / 16 : Nat) : Int) := rfl
      have t16m : ((x : Int).tmod 16) = ((x % 16 : Nat) : Int) := rfl
      have z16 : ((16 : Int) = 0) = False := by decide
      have wx : IntKind.u8.wrap ((x / 16 : Nat) : Int) = ((x / 16 : Nat) : Int) := by
        unfold IntKind.wrap
        simp [IntKind.signed, IntKind.bits]
        omega
      have x16 : x / 16 < 16 := by omega
      have xm : x % 16 < 16 := by omega
      have i32 : i < 32 := by omega
      have hrd : rdN (some (.cells [V.int .u8 (([48, 49, 50, 51, 52, 53, 54, 55, 56, 57, 97, 98, 99, 100, 101, 102] : List Nat).getD (x / 16) 0 : Nat), V.int .u8 (([48, 49, 50, 51, 52, 53, 54, 55, 56, 57, 97, 98, 99, 100, 101, 102] : List Nat).getD (x % 16) 0 : Nat)] 5 false)) 0 2 = some (hexB x) := rdN_bytes (l := hexB x) fun y hy => by
        simp only [hexB, List.mem_cons, List.not_mem_nil, or_false] at hy
        rcases hy with rfl | rfl <;> exact digs_lt _
      have hxl : (hexB x).length = 2 := rfl
      have hln : (hexF (hs.take i)).length + 2 ≤ 9223372036854775807 := by omega
      simp +contextual (disch := first | (simp only [fr]; done) | omega | (simp only [Knx]; omega) | (apply Nat.le_antisymm <;> simp only [Knx] <;> omega) | fail) only [wpy, fD, reduceLE, reduceLT, reduceLeDiff, UInt8.reduceToNat, ↓reduceIte, reduceEqDiff, reduceAdd, reduceCtorEq, reduceToNat, Tryz.f8, e3, e5, e6, e7, e8, hi2]
      refine draw_by [] (by kernel_rfl) ?_
      simp +contextual (disch := first | (simp only [fr]; done) | omega | (simp only [Knx]; omega) | (apply Nat.le_antisymm <;> simp only [Knx] <;> omega) | fail) only [wpy, fD, reduceLE, reduceLT, reduceLeDiff, UInt8.reduceToNat, ↓reduceIte, reduceEqDiff, reduceAdd, reduceCtorEq, reduceToNat, Tryz.f8, e3, e5, e6, e7, e8, hi2, hgb, hgx, i32, t16, t16m, z16, wx, x16, xm, cvBS_slice, hrd, cvBSb_some, hxl, hln]
      first | exact ⟨(by intro p hp; cases hp), _, by omega, i + 1, rfl, by omega, by rw [hst], rfl, hx.trans ((Ext.refl h').push _)⟩ | trace_state
    · obtain rfl : i = 8 := by omega
      have gf : h'.get h.nx = some (.cells [.int .i64 0, .int .i64 0] 25 false) := by rw [hx.2 h.nx (by omega)]; exact g2
      have ff : h'.get h1.nx = some (.cells [.int .i64 T.e, .int .i64 T.p] 25 false) := by rw [hx.2 h1.nx hn2]; exact f2
      simp +contextual (disch := first | (simp only [fr]; done) | omega | (simp only [Knx]; omega) | (apply Nat.le_antisymm <;> simp only [Knx] <;> omega) | fail) only [wpy, fD, reduceLE, reduceLT, reduceLeDiff, UInt8.reduceToNat, ↓reduceIte, reduceEqDiff, reduceAdd, reduceCtorEq, reduceToNat, Tryz.f8, e3, e5, e6, e7, e8, hi2]
      refine draw_by [] (by kernel_rfl) ?_
      simp +contextual (disch := first | (simp only [fr]; done) | omega | (simp only [Knx]; omega) | (apply Nat.le_antisymm <;> simp only [Knx] <;> omega) | fail) only [wpy, fD, reduceLE, reduceLT, reduceLeDiff, UInt8.reduceToNat, ↓reduceIte, reduceEqDiff, reduceAdd, reduceCtorEq, reduceToNat, Tryz.f8, e3, e5, e6, e7, e8, gf, ff, n1]
      exact ⟨(by intro p hp; cases hp), (hX2.trans hx).put (Nat.le_refl _) _⟩
  · rw [if_neg hf]
    have hf' := eq_false hf
    simp +contextual (disch := first | (simp only [fr]; done) | omega | (simp only [Knx]; omega) | (apply Nat.le_antisymm <;> simp only [Knx] <;> omega) | fail) only [wpy, fD, reduceLE, reduceLT, reduceLeDiff, UInt8.reduceToNat, ↓reduceIte, reduceEqDiff, reduceAdd, reduceCtorEq, reduceToNat, Tryz.f8, dagg_neq, hf', g1, n1]
    refine ⟨.inr hX1.1, draw_by [] (by kernel_rfl) ?_⟩
    simp +contextual (disch := first | (simp only [fr]; done) | omega | (simp only [Knx]; omega) | (apply Nat.le_antisymm <;> simp only [Knx] <;> omega) | fail) only [wpy, fD, reduceLE, reduceLT, reduceLeDiff, UInt8.reduceToNat, ↓reduceIte, reduceEqDiff, reduceAdd, reduceCtorEq, reduceToNat, Tryz.f8, g1, n1]
    first | exact ⟨(by intro p hp; cases hp), ((hX1.push _).put hX1.1 _).put (Nat.le_refl _) _⟩ | trace_state
set_option maxHeartbeats 2000000 in
theorem calls_law (s : List Nat) (h : H) (hb : Bytes s) (hs : s.length < 2 ^ 63) : Pure S.cfg 3 [.str s] h fun v _ => v = .bool true := by
  refine into Tryz.f3 _ Tryz.func3 (hS.ownR _ (by decide)) rfl rfl (by kernel_rfl) (by kernel_rfl) ?_
  simp +contextual (disch := first | (simp only [fr]; done) | omega | (simp only [Knx]; omega) | (apply Nat.le_antisymm <;> simp only [Knx] <;> omega) | fail) only [wpy, fD, reduceLE, reduceLT, reduceLeDiff, UInt8.reduceToNat, ↓reduceIte, reduceEqDiff, reduceAdd, reduceCtorEq, reduceToNat, Tryz.f3]
  refine callF_exact (hS.livesD _) ?_
  by_cases hl : 2000 < s.length
  · simp +contextual (disch := first | (simp only [fr]; done) | omega | (simp only [Knx]; omega) | (apply Nat.le_antisymm <;> simp only [Knx] <;> omega) | fail) only [wpy, fD, reduceLE, reduceLT, reduceLeDiff, UInt8.reduceToNat, ↓reduceIte, reduceEqDiff, reduceAdd, reduceCtorEq, reduceToNat, Tryz.f3, hl]
    first | exact ⟨Ext.refl _, bo_true⟩ | exact Ext.refl _ | trace_state
  simp +contextual (disch := first | (simp only [fr]; done) | omega | (simp only [Knx]; omega) | (apply Nat.le_antisymm <;> simp only [Knx] <;> omega) | fail) only [wpy, fD, reduceLE, reduceLT, reduceLeDiff, UInt8.reduceToNat, ↓reduceIte, reduceEqDiff, reduceAdd, reduceCtorEq, reduceToNat, Tryz.f3, hl]
  refine callF_pure (text_spec' hS.toStdD s _ hb (by omega)) ?_
  rintro v h1 hx1 rfl
  have hTv : (digF s).v = .tuple [.str (digF s).t, .agg [.int .i64 (digF s).e, .int .i64 (digF s).p]] := rfl
  rw [hTv]
  simp +contextual (disch := first | (simp only [fr]; done) | omega | (simp only [Knx]; omega) | (apply Nat.le_antisymm <;> simp only [Knx] <;> omega) | fail) only [wpy, fD, reduceLE, reduceLT, reduceLeDiff, UInt8.reduceToNat, ↓reduceIte, reduceEqDiff, reduceAdd, reduceCtorEq, reduceToNat, Tryz.f3]
  refine ⟨.inr hx1.1, ?_⟩
  refine callF_pure (rtext_spec hS s _ hb (by omega)) ?_
  rintro v h2 hx2 rfl
  rw [hTv]
  have hn2 : h1.nx < h2.nx := by have := hx2.1; simp only [push_nx, put_nx] at this; omega
  have hX2 : Ext h h2 := (hx1.trans (Ext.new h1 _ _)).trans hx2
  have a2 : h2.get h1.nx = some (.cells [.int .i64 (digF s).e, .int .i64 (digF s).p] 25 false) := by rw [hx2.2 h1.nx (by simp only [push_nx, put_nx]; omega), put_eq rfl]
  simp +contextual (disch := first | (simp only [fr]; done) | omega | (simp only [Knx]; omega) | (apply Nat.le_antisymm <;> simp only [Knx] <;> omega) | fail) only [wpy, fD, reduceLE, reduceLT, reduceLeDiff, UInt8.reduceToNat, ↓reduceIte, reduceEqDiff, reduceAdd, reduceCtorEq, reduceToNat, Tryz.f3]
  refine ⟨.inr hX2.1, ?_⟩
  refine callF_pure (of_spec hS.toStdH s _ hb (by omega)) ?_
  rintro v h3 hx3 rfl
  have hn3 : h2.nx < h3.nx := by have := hx3.1; simp only [push_nx, put_nx] at this; omega
  have hX3 : Ext h h3 := (hX2.trans (Ext.new h2 _ _)).trans hx3
  have a3 : h3.get h1.nx = some (.cells [.int .i64 (digF s).e, .int .i64 (digF s).p] 25 false) := by rw [hx3.2 h1.nx (by simp only [push_nx, put_nx]; omega), put_ne (by omega), push_ne (by omega)]; exact a2
  have b3 : h3.get h2.nx = some (.cells [.int .i64 (digF s).e, .int .i64 (digF s).p] 25 false) := by rw [hx3.2 h2.nx (by simp only [push_nx, put_nx]; omega), put_eq rfl]
  simp +contextual (disch := first | (simp only [fr]; done) | omega | (simp only [Knx]; omega) | (apply Nat.le_antisymm <;> simp only [Knx] <;> omega) | fail) only [wpy, fD, reduceLE, reduceLT, reduceLeDiff, UInt8.reduceToNat, ↓reduceIte, reduceEqDiff, reduceAdd, reduceCtorEq, reduceToNat, Tryz.f3]
  refine ⟨.inr hX3.1, ?_⟩
  refine callF_pure (rof_spec hS s _ hb (by omega)) ?_
  rintro v h4 hx4 rfl
  have hn4 : h3.nx < h4.nx := by have := hx4.1; simp only [push_nx, put_nx] at this; omega
  have hX4 : Ext h h4 := (hX3.trans (Ext.new h3 _ _)).trans hx4
  have a4 : h4.get h1.nx = some (.cells [.int .i64 (digF s).e, .int .i64 (digF s).p] 25 false) := by rw [hx4.2 h1.nx (by simp only [push_nx, put_nx]; omega), put_ne (by omega), push_ne (by omega)]; exact a3
  have b4 : h4.get h2.nx = some (.cells [.int .i64 (digF s).e, .int .i64 (digF s).p] 25 false) := by rw [hx4.2 h2.nx (by simp only [push_nx, put_nx]; omega), put_ne (by omega), push_ne (by omega)]; exact b3
  have c4 : h4.get h3.nx = some (.cells [.int .i64 (digF s).e, .int .i64 (digF s).p] 25 false) := by rw [hx4.2 h3.nx (by simp only [push_nx, put_nx]; omega), put_eq rfl]
  have n1 : ¬ h1.nx = h4.nx := by omega
  have n2 : ¬ h2.nx = h4.nx := by omega
  have n3 : ¬ h3.nx = h4.nx := by omega
  generalize (if (digF s).e = 0 ∧ (digF s).p = 0 then hexF ((shaF (digF s).t).take 8) else []) = X at *
  generalize digF s = T at *
  simp +contextual (disch := first | (simp only [fr]; done) | omega | (simp only [Knx]; omega) | (apply Nat.le_antisymm <;> simp only [Knx] <;> omega) | fail) only [wpy, fD, reduceLE, reduceLT, reduceLeDiff, UInt8.reduceToNat, ↓reduceIte, reduceEqDiff, reduceAdd, reduceCtorEq, reduceToNat, Tryz.f3, a4, b4, c4, n1, n2, n3, dagg_eql, eq_self']
  exact ⟨.inr hX4.1, (hX4.push _).put hX4.1 _⟩
end
end Go.Proofs.YtkibhdbmamfjcaaGreatDoor
