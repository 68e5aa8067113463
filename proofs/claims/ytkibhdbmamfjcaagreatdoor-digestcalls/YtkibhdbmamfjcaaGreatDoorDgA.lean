/-
  Several texts of one walk, joined.
-/
import Derived.Test.YtkibhdbmamfjcaaGreatDoorScA
import Derived.Test.YtkibhdbmamfjcaaGreatDoorLyP
import Derived.Test.YtkibhdbmamfjcaaGreatDoorWxZ
set_option maxHeartbeats 1000000
set_option linter.unusedSimpArgs false
set_option linter.unusedVariables false
set_option linter.defProp false
set_option maxRecDepth 10000
namespace Go.Proofs.YtkibhdbmamfjcaaGreatDoor
open Int (reduceLE reduceLT reduceToNat)
open Nat (reduceLeDiff reduceEqDiff reduceAdd)
open Go.Proofs Go.Lx Go.Wx Go.IntWalk
noncomputable section

theorem gOp_no {c : Cfg} {Ok : Nat → Prop} {op : Op} {env : Env} {h : H} {K : V → H → Fp → Prop} : gOp c Ok False op env h K = K undefV h (.lg []) := by unfold gOp; simp
theorem gOp_yes {c : Cfg} {Ok : Nat → Prop} {op : Op} {env : Env} {h : H} {K : V → H → Fp → Prop} : gOp c Ok True op env h K = opW c Ok op env h K := by unfold gOp; simp
noncomputable def fC := And.intro @facts <| And.intro @gOp_no @gOp_yes
noncomputable def fr := And.intro @fC <| And.intro @K3 <| And.intro @isPtrD.eq_1 @isPtrD.eq_2
noncomputable def fD := And.intro @fC <| And.intro @wpb <| And.intro @cst <| And.intro @wpk <| And.intro @wpl <| And.intro @forall_const.{0} <| And.intro @forall_const.{1} <| And.intro @implies_true.{0} <| And.intro @implies_true.{1} <| And.intro @false_implies @K3

theorem wcells_drop : ∀ (ws : List WD) (i : Nat), (wcells ws).drop (i * 3) = wcells (ws.drop i)
  | ws, 0 => by simp
  | [], i + 1 => by simp [wcells]
  | w :: l, i + 1 => by
    have ih := wcells_drop l i
    rw [show (i + 1) * 3 = 3 + i * 3 by omega, List.drop_succ_cons, ← ih, show wcells (w :: l) = w.cells ++ wcells l from rfl, ← List.drop_drop]
    rfl
def gw (ws : List WD) (i : Nat) : WD := ws.getD i ⟨0, [], 0⟩
theorem gw_eq {ws : List WD} {i : Nat} (hi : i < ws.length) : gw ws i = ws[i] := by
  unfold gw
  rw [List.getD_eq_getElem?_getD, List.getElem?_eq_getElem hi]
  rfl
theorem drop_gw {ws : List WD} {i : Nat} (hi : i < ws.length) : ws.drop i = gw ws i :: ws.drop (i + 1) := by rw [gw_eq hi]; exact List.drop_eq_getElem_cons hi
theorem wcells_take : ∀ (ws : List WD) (i : Nat), (wcells ws).take (i * 3) = wcells (ws.take i)
  | ws, 0 => by simp [wcells]
  | [], i + 1 => by simp [wcells]
  | w :: l, i + 1 => by
    have ih := wcells_take l i
    rw [show (i + 1) * 3 = i * 3 + 1 + 1 + 1 by omega, List.take_succ_cons, show wcells (w :: l.take i) = w.cells ++ wcells (l.take i) from rfl, ← ih]
    rfl
def Wds (h : H) (v : V) (ws : List WD) : Prop := (v = .nilslice ∧ ws = []) ∨ ∃ b o m c fl, v = .slice b o ws.length m ∧ ws.length ≤ m ∧ b < h.nx ∧ h.get b = some (.cells c 43 fl) ∧ o + ws.length * 3 ≤ c.length ∧ (c.drop o).take (ws.length * 3) = wcells ws
theorem Wds.ext {h h' : H} {v : V} {ws : List WD} (hw : Wds h v ws) (hx : Ext h h') : Wds h' v ws := by
  rcases hw with h1 | ⟨b, o, m, c, fl, rfl, hm, hb, hg, hc⟩
  · exact .inl h1
  · exact .inr ⟨b, o, m, c, fl, rfl, hm, Nat.lt_of_lt_of_le hb hx.1, by rw [hx.2 b hb]; exact hg, hc⟩
theorem Wds.cell {h : H} {v : V} {ws : List WD} (hw : Wds h v ws) : v.isCell = true ∧ v.cells = [v] := by
  rcases hw with ⟨rfl, _⟩ | ⟨b, o, m, c, fl, rfl, _⟩ <;> exact ⟨rfl, rfl⟩
theorem Wds.len {h : H} {v : V} {ws : List WD} (hw : Wds h v ws) : lenO (some (.slice 43)) v = some (.int .i64 ws.length) := by
  rcases hw with ⟨rfl, rfl⟩ | ⟨b, o, m, c, fl, rfl, _⟩ <;> rfl
theorem row_sub {ws : List WD} {c : List V} {o i k : Nat} (hc : (c.drop o).take (ws.length * 3) = wcells ws) (hi : i + k ≤ ws.length) : (c.drop (o + i * 3)).take (k * 3) = wcells ((ws.drop i).take k) := by
  rw [← wcells_take, ← wcells_drop, ← hc, List.drop_take, List.take_take, List.drop_drop, Nat.min_eq_left (by rw [← Nat.sub_mul]; exact Nat.mul_le_mul_right _ (by omega))]
theorem Wds.get {h : H} {v : V} {ws : List WD} (hw : Wds h v ws) {i : Nat} (hi : i < ws.length) : ∃ b o m c fl, v = .slice b o ws.length m ∧ b < h.nx ∧ h.get b = some (.cells c 43 fl) ∧ o + i * 3 + 3 ≤ c.length ∧ (c.drop (o + i * 3)).take 3 = (gw ws i).cells := by
  rcases hw with ⟨rfl, rfl⟩ | ⟨b, o, m, c, fl, rfl, hm, hb, hg, hc, hc2⟩
  · simp at hi
  · refine ⟨b, o, m, c, fl, rfl, hb, hg, by omega, ?_⟩
    have := row_sub (i := i) (k := 1) hc2 (by omega)
    rw [Nat.one_mul, drop_gw hi, List.take_succ_cons, List.take_zero] at this
    rw [this]
    simp [wcells]
theorem Wds.opened {h : H} {v : V} {ws : List WD} (hw : Wds h v ws) (h0 : 0 < ws.length) : ∃ b o m c fl, v = .slice b o ws.length m ∧ ws.length ≤ m ∧ b < h.nx ∧ h.get b = some (.cells c 43 fl) ∧ (∀ i, i < ws.length → o + i * 3 + 3 ≤ c.length) ∧ (∀ i, i < ws.length → (c.drop (o + i * 3)).take 3 = [.int .i64 (gw ws i).kind, .str (gw ws i).text, .int .i64 (gw ws i).at_]) ∧ (c.drop o).take (ws.length * 3) = wcells ws := by
  rcases hw with ⟨rfl, rfl⟩ | ⟨b, o, m, c, fl, rfl, hm, hb, hg, hc, hc2⟩
  · simp at h0
  · refine ⟨b, o, m, c, fl, rfl, hm, hb, hg, fun i hi => by omega, fun i hi => ?_, hc2⟩
    have := row_sub (i := i) (k := 1) hc2 (by omega)
    rw [Nat.one_mul, drop_gw hi, List.take_succ_cons, List.take_zero] at this
    rw [this]
    simp [wcells, WD.cells]
theorem Wds.of_acc {n0 : Nat} {h : H} {v : V} {ws : List WD} (ha : Wx.Acc n0 h v (wcells ws) 43 3) : Wds h v ws := by
  rcases ha with ⟨rfl, hw⟩ | ⟨b, k, _, hb2, rfl, _, hg, hk⟩
  · refine .inl ⟨rfl, ?_⟩
    have := wcells_len ws
    rw [hw] at this
    exact List.eq_nil_of_length_eq_zero (by simp at this; omega)
  · have hl := wcells_len ws
    obtain rfl : k = ws.length := by omega
    refine .inr ⟨b, 0, ws.length, wcells ws, true, rfl, Nat.le_refl _, hb2, hg, by omega, ?_⟩
    rw [List.drop_zero, ← hl, List.take_length]
theorem wcells_app (a b : List WD) : wcells (a ++ b) = wcells a ++ wcells b := by simp [wcells]
theorem wcell (w : WD) : w.cells = [.int .i64 w.kind, .str w.text, .int .i64 w.at_] := rfl
structure StdD (S : Set0) : Prop extends StdF S where
  ownD : ∀ f, f ∈ [12, 32, 31, 30, 65, 29, 64, 33, 66, 11, 26, 27, 67, 94, 5, 7] → sums S.exts f = none
  repl : sums S.exts 61 = some (pureM replV)
  join : sums S.exts 28 = some joinM

variable {S : Set0} (hS : StdD S)
include hS
theorem idxS_spec (ts : List (List Nat)) (t : List Nat) (b m : Nat) (e : TypeId) (fl : Bool) (h : H) (hs : ts.length < 2 ^ 40) (hg : h.get b = some (.cells (ts.map V.str) e fl)) : callW S.cfg nil1 94 [.slice b 0 ts.length m, .str t] h fun v h' => h' = h ∧ ∃ k : Int, v = .int .i64 k ∧ (0 ≤ k ↔ t ∈ ts) := by
  refine into Tryz.f94 _ Tryz.func94 (hS.ownD _ (by decide)) rfl rfl (by kernel_rfl) (by kernel_rfl) ?_
  simp +contextual (disch := first | (simp only [fr]; done) | omega | (simp only [Knx]; omega) | (apply Nat.le_antisymm <;> simp only [Knx] <;> omega) | fail) only [wpy, fD, reduceLE, reduceLT, reduceLeDiff, UInt8.reduceToNat, ↓reduceIte, reduceEqDiff, reduceAdd, reduceCtorEq, reduceToNat, Tryz.f94]
  refine run_loop (fun k env h' => ∃ i : Nat, k = ts.length - i ∧ i ≤ ts.length ∧ env 0 = .slice b 0 ts.length m ∧ env 1 = .str t ∧ env 7 = .int .i64 ts.length ∧ env 8 = .int .i64 i ∧ h' = h ∧ t ∉ ts.take i) ts.length ⟨0, ?_⟩ ?_
  · simp +contextual (disch := first | (simp only [fr]; done) | omega | (simp only [Knx]; omega) | (apply Nat.le_antisymm <;> simp only [Knx] <;> omega) | fail) only [wpy, fD, reduceLE, reduceLT, reduceLeDiff, UInt8.reduceToNat, ↓reduceIte, reduceEqDiff, reduceAdd, reduceCtorEq, reduceToNat]
    simp
  rintro k env h' ⟨i, rfl, hi, e0, e1, e7, e8, rfl, hno⟩
  by_cases hi2 : i < ts.length
  · have hgi : (ts.map V.str)[i]? = some (.str ts[i]) := by rw [List.getElem?_map, List.getElem?_eq_getElem hi2]; rfl
    by_cases h0 : t = ts[i]
    · have hin : t ∈ ts := by rw [h0]; exact List.getElem_mem hi2
      simp +contextual (disch := first | (simp only [fr]; done) | omega | (simp only [Knx]; omega) | (apply Nat.le_antisymm <;> simp only [Knx] <;> omega) | fail) only [wpy, fD, reduceLE, reduceLT, reduceLeDiff, UInt8.reduceToNat, ↓reduceIte, reduceEqDiff, reduceAdd, reduceCtorEq, reduceToNat, Tryz.f94, e0, e1, e7, e8, hi2, hg, hgi, ← h0]
      exact ⟨_, rfl, by simp [hin]⟩
    · simp +contextual (disch := first | (simp only [fr]; done) | omega | (simp only [Knx]; omega) | (apply Nat.le_antisymm <;> simp only [Knx] <;> omega) | fail) only [wpy, fD, reduceLE, reduceLT, reduceLeDiff, UInt8.reduceToNat, ↓reduceIte, reduceEqDiff, reduceAdd, reduceCtorEq, reduceToNat, Tryz.f94, e0, e1, e7, e8, hi2, hg, hgi, h0]
      refine ⟨_, ?_, i + 1, rfl, by omega, rfl, ?_⟩
      · omega
      rw [List.take_succ_eq_append_getElem hi2, List.mem_append]
      rintro (q | q)
      · exact hno q
      · rw [List.mem_singleton] at q
        exact h0 q
  · simp +contextual (disch := first | (simp only [fr]; done) | omega | (simp only [Knx]; omega) | (apply Nat.le_antisymm <;> simp only [Knx] <;> omega) | fail) only [wpy, fD, reduceLE, reduceLT, reduceLeDiff, UInt8.reduceToNat, ↓reduceIte, reduceEqDiff, reduceAdd, reduceCtorEq, reduceToNat, Tryz.f94, e0, e1, e7, e8, hi2]
    rw [List.take_of_length_le (by omega)] at hno
    exact ⟨_, rfl, by simp [hno]⟩
theorem conS_spec (ts : List (List Nat)) (t : List Nat) (b m : Nat) (e : TypeId) (fl : Bool) (h : H) (hs : ts.length < 2 ^ 40) (hg : h.get b = some (.cells (ts.map V.str) e fl)) : Exact S.cfg 67 [.slice b 0 ts.length m, .str t] h (bo (t ∈ ts)) := by
  refine into Tryz.f67 _ Tryz.func67 (hS.ownD _ (by decide)) rfl rfl (by kernel_rfl) (by kernel_rfl) ?_
  simp +contextual (disch := first | (simp only [fr]; done) | omega | (simp only [Knx]; omega) | (apply Nat.le_antisymm <;> simp only [Knx] <;> omega) | fail) only [wpy, fD, reduceLE, reduceLT, reduceLeDiff, UInt8.reduceToNat, ↓reduceIte, reduceEqDiff, reduceAdd, reduceCtorEq, reduceToNat, Tryz.f67]
  refine callF_of (idxS_spec hS ts t b m e fl h hs hg) (fun k q => q.elim) ?_
  rintro v h1 ⟨rfl, k, rfl, hk⟩
  simp +contextual (disch := first | (simp only [fr]; done) | omega | (simp only [Knx]; omega) | (apply Nat.le_antisymm <;> simp only [Knx] <;> omega) | fail) only [wpy, fD, reduceLE, reduceLT, reduceLeDiff, UInt8.reduceToNat, ↓reduceIte, reduceEqDiff, reduceAdd, reduceCtorEq, reduceToNat, Tryz.f67]
  first | exact ⟨congrArg bo (propext hk), rfl⟩ | exact congrArg bo (propext hk) | trace_state
def isS (w : WD) (ts : List (List Nat)) : Prop := w.kind = 5 ∧ w.text ∈ ts
noncomputable instance (w : WD) (ts : List (List Nat)) : Decidable (isS w ts) := Classical.propDecidable _
theorem dsign_spec (w : WD) (ts : List (List Nat)) (n b : Nat) (e : TypeId) (fl : Bool) (h : H) (hn : n = ts.length) (hs : ts.length < 2 ^ 40) (hb : b < h.nx) (hg : h.get b = some (.cells (ts.map V.str) e fl)) : Pure S.cfg 33 [.agg w.cells, .slice b 0 n n] h fun v _ => v = bo (isS w ts) := by
  subst hn
  refine into Tryz.f33 _ Tryz.func33 (hS.ownD _ (by decide)) rfl rfl (by kernel_rfl) (by kernel_rfl) ?_
  by_cases hk : w.kind = 5
  · simp +contextual (disch := first | (simp only [fr]; done) | omega | (simp only [Knx]; omega) | (apply Nat.le_antisymm <;> simp only [Knx] <;> omega) | fail) only [wpy, fD, reduceLE, reduceLT, reduceLeDiff, UInt8.reduceToNat, ↓reduceIte, reduceEqDiff, reduceAdd, reduceCtorEq, reduceToNat, Tryz.f33, wcell, hk]
    refine callF_exact (conS_spec hS ts w.text b _ e fl _ hs ?_) ?_
    · rw [push_ne (by omega)]; exact hg
    simp +contextual (disch := first | (simp only [fr]; done) | omega | (simp only [Knx]; omega) | (apply Nat.le_antisymm <;> simp only [Knx] <;> omega) | fail) only [wpy, fD, reduceLE, reduceLT, reduceLeDiff, UInt8.reduceToNat, ↓reduceIte, reduceEqDiff, reduceAdd, reduceCtorEq, reduceToNat, Tryz.f33, wcell, hk]
    exact ⟨(Ext.refl h).push _, bo_eq ⟨fun q => ⟨hk, q⟩, fun q => q.2⟩⟩
  · simp +contextual (disch := first | (simp only [fr]; done) | omega | (simp only [Knx]; omega) | (apply Nat.le_antisymm <;> simp only [Knx] <;> omega) | fail) only [wpy, fD, reduceLE, reduceLT, reduceLeDiff, UInt8.reduceToNat, ↓reduceIte, reduceEqDiff, reduceAdd, reduceCtorEq, reduceToNat, Tryz.f33, wcell, hk]
    exact ⟨(Ext.refl h).push _, bo_eq ⟨fun q => q.elim, fun q => hk q.1⟩⟩
theorem dsign_new (w : WD) (ts : List (List Nat)) (n b : Nat) (e : TypeId) (fl : Bool) (h : H) (hb : b = h.nx) (hn : n = ts.length) (hs : ts.length < 2 ^ 40) : Pure S.cfg 33 [.agg w.cells, .slice b 0 n n] (h.push (.cells (ts.map V.str) e fl)) fun v _ => v = bo (isS w ts) := by
  subst hb
  exact dsign_spec hS w ts n _ e fl _ hn hs (Nat.lt_succ_self _) (push_eq rfl)
theorem param_spec (w : WD) (h : H) : Pure S.cfg 66 [.agg w.cells] h fun v _ => v = bo (w.kind = 8) := by
  refine into Tryz.f66 _ Tryz.func66 (hS.ownD _ (by decide)) rfl rfl (by kernel_rfl) (by kernel_rfl) ?_
  simp +contextual (disch := first | (simp only [fr]; done) | omega | (simp only [Knx]; omega) | (apply Nat.le_antisymm <;> simp only [Knx] <;> omega) | fail) only [wpy, fD, reduceLE, reduceLT, reduceLeDiff, UInt8.reduceToNat, ↓reduceIte, reduceEqDiff, reduceAdd, reduceCtorEq, reduceToNat, Tryz.f66, wcell]
  exact (Ext.refl h).push _
omit hS in
theorem app_word {env : Env} {s x : Operand} {n0 : Nat} {h : H} {l : V} {acc : List WD} (w : WD) {Ok : Nat → Prop} {K : V → H → Fp → Prop} (hsv : evalE env s = l) (hx : evalE env x = .slice h.nx 0 1 1) (ha : Wx.Acc n0 h l (wcells acc) 43 3) (hroom : acc.length < 2 ^ 28) (hOk : ∀ k, n0 ≤ k → Ok k) (hn0 : n0 ≤ h.nx)
    (hK : ∀ v h' L, Wx.Acc n0 h' v (wcells (acc ++ [w])) 43 3 → h.nx < h'.nx → (∀ k, k < n0 → h'.get k = h.get k) → K v h' (.lg L)) : opW S.cfg Ok (.call ⟨.builtin .append, #[s, x], #[30, 30]⟩) env (h.push (.cells w.cells 43 false)) K := by
  refine append_new (sv := l) (n0 := n0) hsv ap30 ⟨.slice 43, by kernel_rfl, rfl⟩ ha hx (n := 1) (by decide) rfl rfl ?_ (by decide) hOk hn0 ?_
  · rw [wcells_len]
    show _ + 3 ≤ _
    omega
  · intro v h' L ha' hn' _ hf' _
    exact hK v h' L (by rw [wcells_append]; exact ha') hn' hf'
omit hS in
theorem ext_of {n0 h h' : H} (hx : Ext n0 h) (hn : h.nx < h'.nx) (hf : ∀ k, k < n0.nx → h'.get k = h.get k) : Ext n0 h' := ⟨by have := hx.1; omega, fun k hk => by rw [hf k hk, hx.2 k hk]⟩
def val1 (w : WD) : List WD := if w.kind = 9 then [] else if w.kind = 3 ∨ w.kind = 4 then [⟨8, [], w.at_⟩] else [w]
def valF (ws : List WD) : List WD := ws.flatMap val1
omit hS in
theorem valF_step {ws : List WD} {i : Nat} (hi : i < ws.length) : valF (ws.take (i + 1)) = valF (ws.take i) ++ val1 (gw ws i) := by
  rw [gw_eq hi, valF, List.take_succ_eq_append_getElem hi, List.flatMap_append]
  simp [valF]
omit hS in
theorem flat_len {f : WD → List WD} (hf : ∀ w, (f w).length ≤ 1) : ∀ (l : List WD), (l.flatMap f).length ≤ l.length
  | [] => Nat.le_refl _
  | w :: l => by
    have h1 := flat_len hf l
    have h2 := hf w
    rw [List.flatMap_cons, List.length_append, List.length_cons]
    omega
omit hS in
theorem val1_len (w : WD) : (val1 w).length ≤ 1 := by
  unfold val1
  split
  · simp
  · split <;> simp
omit hS in
theorem valF_len (ws : List WD) : (valF ws).length ≤ ws.length := flat_len val1_len ws
set_option maxHeartbeats 1000000 in
theorem values_spec (lv : V) (ws : List WD) (h : H) (ha : Wds h lv ws) (hwl : ws.length < 2 ^ 27) : Pure S.cfg 32 [lv] h fun v h' => Wx.Acc h.nx h' v (wcells (valF ws)) 43 3 := by
  refine into Tryz.f32 _ Tryz.func32 (hS.ownD _ (by decide)) rfl rfl (by kernel_rfl) (by kernel_rfl) ?_
  have a1 := ha.len
  simp +contextual (disch := first | (simp only [fr]; done) | omega | (simp only [Knx]; omega) | (apply Nat.le_antisymm <;> simp only [Knx] <;> omega) | fail) only [wpy, fD, reduceLE, reduceLT, reduceLeDiff, UInt8.reduceToNat, ↓reduceIte, reduceEqDiff, reduceAdd, reduceCtorEq, reduceToNat, Tryz.f32, a1]
  refine run_loop (fun k env h' => ∃ (i : Nat) (l : V), k = ws.length - i ∧ i ≤ ws.length ∧ env 3 = l ∧ env 6 = lv ∧ env 7 = .int .i64 ws.length ∧ env 8 = .int .i64 i ∧ Ext h h' ∧ Wx.Acc h.nx h' l (wcells (valF (ws.take i))) 43 3) ws.length ⟨0, .nilslice, ?_⟩ ?_
  · simp +contextual (disch := first | (simp only [fr]; done) | omega | (simp only [Knx]; omega) | (apply Nat.le_antisymm <;> simp only [Knx] <;> omega) | fail) only [wpy, fD, reduceLE, reduceLT, reduceLeDiff, UInt8.reduceToNat, ↓reduceIte, reduceEqDiff, reduceAdd, reduceCtorEq, reduceToNat]
    exact ⟨by simp, Ext.refl _, .inl ⟨rfl, rfl⟩⟩
  rintro k env h' ⟨i, l, rfl, hi, e3, e6, e7, e8, hx, hl⟩
  have hxn := hx.1
  have hc1 := hl.cell.1
  have hc2 := hl.cell.2
  by_cases hi2 : i < ws.length
  · obtain ⟨b, o, mc, c, fl, rfl, hbn, hgb, w0, w1⟩ := (ha.ext hx).get hi2
    rw [wcell] at w1
    have hbn' : ¬ b = h'.nx := by omega
    have hacc : (valF (ws.take i)).length < 2 ^ 28 := by have := valF_len (ws.take i); rw [List.length_take] at this; omega
    have hst := valF_step hi2
    have hend : ∀ w : WD, val1 (gw ws i) = [w] → ∀ v h4, Wx.Acc h.nx h4 v (wcells (valF (ws.take i) ++ [w])) 43 3 → h'.nx + 1 < h4.nx → (∀ k, k < h.nx → h4.get k = h'.get k) → ∃ m', m' < ws.length - i ∧ ∃ (i' : Nat) (l : V), m' = ws.length - i' ∧ i' ≤ ws.length ∧ v = l ∧ i + 1 = i' ∧ Ext h h4 ∧ Wx.Acc h.nx h4 l (wcells (valF (ws.take i'))) 43 3 := fun w hw v h4 ha4 hn4 hf4 => ⟨_, by omega, i + 1, v, rfl, by omega, rfl, rfl, ⟨by omega, fun k hk => by rw [hf4 k hk, hx.2 k hk]⟩, by rw [hst, hw]; exact ha4⟩
    by_cases c9 : (gw ws i).kind = 9
    · simp +contextual (disch := first | (simp only [fr]; done) | omega | (simp only [Knx]; omega) | (apply Nat.le_antisymm <;> simp only [Knx] <;> omega) | exact dok (by kernel_rfl)) only [draw_calm, draw_calmA, wpy, fD, reduceLE, reduceLT, reduceLeDiff, UInt8.reduceToNat, ↓reduceIte, reduceEqDiff, reduceAdd, reduceCtorEq, reduceToNat, Tryz.f32, e3, e6, e7, e8, hi2, hgb, hbn', w0, w1, c9]
      have hv : val1 (gw ws i) = [] := by rw [val1, if_pos c9]
      exact ⟨.inr hxn, _, by omega, i + 1, l, rfl, by omega, rfl, rfl, (hx.push _).put hxn _, by rw [hst, hv, List.append_nil]; exact hl.ext (Ext.new _ _ _)⟩
    by_cases c34 : (gw ws i).kind = 3 ∨ (gw ws i).kind = 4
    · have hv : val1 (gw ws i) = [⟨8, [], (gw ws i).at_⟩] := by rw [val1, if_neg c9, if_pos c34]
      rcases c34 with c3 | c4
      · simp +contextual (disch := first | (simp only [fr]; done) | omega | (simp only [Knx]; omega) | (apply Nat.le_antisymm <;> simp only [Knx] <;> omega) | exact dok (by kernel_rfl)) only [draw_calm, draw_calmA, wpy, fD, reduceLE, reduceLT, reduceLeDiff, UInt8.reduceToNat, ↓reduceIte, reduceEqDiff, reduceAdd, reduceCtorEq, reduceToNat, Tryz.f32, e3, e6, e7, e8, hi2, hgb, hbn', w0, w1, c9, c3]
        refine ⟨.inr hxn, .inr hxn, app_word (n0 := h.nx) (l := l) (acc := valF (ws.take i)) ⟨8, [], (gw ws i).at_⟩ (by simp +contextual (disch := first | (simp only [fr]; done) | omega | (simp only [Knx]; omega) | (apply Nat.le_antisymm <;> simp only [Knx] <;> omega) | fail) only [wpy, fD, reduceLE, reduceLT, reduceLeDiff, UInt8.reduceToNat, ↓reduceIte, reduceEqDiff, reduceAdd, reduceCtorEq, reduceToNat]) (by simp +contextual (disch := first | (simp only [fr]; done) | omega | (simp only [Knx]; omega) | (apply Nat.le_antisymm <;> simp only [Knx] <;> omega) | fail) only [wpy, fD, reduceLE, reduceLT, reduceLeDiff, UInt8.reduceToNat, ↓reduceIte, reduceEqDiff, reduceAdd, reduceCtorEq, reduceToNat]) (hl.ext (((Ext.new _ _ _)).put (Nat.le_refl _) _)) hacc (fun k hk => by rw [fresh_def]; exact .inl hk) (by show h.nx ≤ h'.nx + 1; omega) ?_⟩
        intro v h4 L ha4 hn4 hf4
        have hv1 := ha4.cell.1
        have hv2 := ha4.cell.2
        simp +contextual (disch := first | (simp only [fr]; done) | omega | (simp only [Knx]; omega) | (apply Nat.le_antisymm <;> simp only [Knx] <;> omega) | fail) only [wpy, fD, reduceLE, reduceLT, reduceLeDiff, UInt8.reduceToNat, ↓reduceIte, reduceEqDiff, reduceAdd, reduceCtorEq, reduceToNat, Tryz.f32, e3, e6, e7, e8, hv1, hv2]
        exact hend _ hv v h4 ha4 hn4 fun k hk => by rw [hf4 k hk, put_ne (by omega), put_ne (by omega), push_ne (by omega)]
      · have c3 : ¬ (gw ws i).kind = 3 := by omega
        simp +contextual (disch := first | (simp only [fr]; done) | omega | (simp only [Knx]; omega) | (apply Nat.le_antisymm <;> simp only [Knx] <;> omega) | exact dok (by kernel_rfl)) only [draw_calm, draw_calmA, wpy, fD, reduceLE, reduceLT, reduceLeDiff, UInt8.reduceToNat, ↓reduceIte, reduceEqDiff, reduceAdd, reduceCtorEq, reduceToNat, Tryz.f32, e3, e6, e7, e8, hi2, hgb, hbn', w0, w1, c9, c3, c4]
        refine ⟨.inr hxn, .inr hxn, app_word (n0 := h.nx) (l := l) (acc := valF (ws.take i)) ⟨8, [], (gw ws i).at_⟩ (by simp +contextual (disch := first | (simp only [fr]; done) | omega | (simp only [Knx]; omega) | (apply Nat.le_antisymm <;> simp only [Knx] <;> omega) | fail) only [wpy, fD, reduceLE, reduceLT, reduceLeDiff, UInt8.reduceToNat, ↓reduceIte, reduceEqDiff, reduceAdd, reduceCtorEq, reduceToNat]) (by simp +contextual (disch := first | (simp only [fr]; done) | omega | (simp only [Knx]; omega) | (apply Nat.le_antisymm <;> simp only [Knx] <;> omega) | fail) only [wpy, fD, reduceLE, reduceLT, reduceLeDiff, UInt8.reduceToNat, ↓reduceIte, reduceEqDiff, reduceAdd, reduceCtorEq, reduceToNat]) (hl.ext (((Ext.new _ _ _)).put (Nat.le_refl _) _)) hacc (fun k hk => by rw [fresh_def]; exact .inl hk) (by show h.nx ≤ h'.nx + 1; omega) ?_⟩
        intro v h4 L ha4 hn4 hf4
        have hv1 := ha4.cell.1
        have hv2 := ha4.cell.2
        simp +contextual (disch := first | (simp only [fr]; done) | omega | (simp only [Knx]; omega) | (apply Nat.le_antisymm <;> simp only [Knx] <;> omega) | fail) only [wpy, fD, reduceLE, reduceLT, reduceLeDiff, UInt8.reduceToNat, ↓reduceIte, reduceEqDiff, reduceAdd, reduceCtorEq, reduceToNat, Tryz.f32, e3, e6, e7, e8, hv1, hv2]
        exact hend _ hv v h4 ha4 hn4 fun k hk => by rw [hf4 k hk, put_ne (by omega), put_ne (by omega), push_ne (by omega)]
    · have c3 : ¬ (gw ws i).kind = 3 := fun q => c34 (.inl q)
      have c4 : ¬ (gw ws i).kind = 4 := fun q => c34 (.inr q)
      have hv : val1 (gw ws i) = [gw ws i] := by rw [val1, if_neg c9, if_neg c34]
      simp +contextual (disch := first | (simp only [fr]; done) | omega | (simp only [Knx]; omega) | (apply Nat.le_antisymm <;> simp only [Knx] <;> omega) | exact dok (by kernel_rfl)) only [draw_calm, draw_calmA, wpy, fD, reduceLE, reduceLT, reduceLeDiff, UInt8.reduceToNat, ↓reduceIte, reduceEqDiff, reduceAdd, reduceCtorEq, reduceToNat, Tryz.f32, e3, e6, e7, e8, hi2, hgb, hbn', w0, w1, c9, c3, c4]
      refine ⟨.inr hxn, app_word (n0 := h.nx) (l := l) (acc := valF (ws.take i)) (gw ws i) (by simp +contextual (disch := first | (simp only [fr]; done) | omega | (simp only [Knx]; omega) | (apply Nat.le_antisymm <;> simp only [Knx] <;> omega) | fail) only [wpy, fD, reduceLE, reduceLT, reduceLeDiff, UInt8.reduceToNat, ↓reduceIte, reduceEqDiff, reduceAdd, reduceCtorEq, reduceToNat]) (by simp +contextual (disch := first | (simp only [fr]; done) | omega | (simp only [Knx]; omega) | (apply Nat.le_antisymm <;> simp only [Knx] <;> omega) | fail) only [wpy, fD, reduceLE, reduceLT, reduceLeDiff, UInt8.reduceToNat, ↓reduceIte, reduceEqDiff, reduceAdd, reduceCtorEq, reduceToNat]) (hl.ext (Ext.new _ _ _)) hacc (fun k hk => by rw [fresh_def]; exact .inl hk) (by show h.nx ≤ h'.nx + 1; omega) ?_⟩
      intro v h4 L ha4 hn4 hf4
      have hv1 := ha4.cell.1
      have hv2 := ha4.cell.2
      simp +contextual (disch := first | (simp only [fr]; done) | omega | (simp only [Knx]; omega) | (apply Nat.le_antisymm <;> simp only [Knx] <;> omega) | fail) only [wpy, fD, reduceLE, reduceLT, reduceLeDiff, UInt8.reduceToNat, ↓reduceIte, reduceEqDiff, reduceAdd, reduceCtorEq, reduceToNat, Tryz.f32, e3, e6, e7, e8, hv1, hv2]
      exact hend _ hv v h4 ha4 hn4 fun k hk => by rw [hf4 k hk, put_ne (by omega), push_ne (by omega)]
  · have hle : i = ws.length := by omega
    subst hle
    rw [List.take_length] at hl
    simp +contextual (disch := first | (simp only [fr]; done) | omega | (simp only [Knx]; omega) | (apply Nat.le_antisymm <;> simp only [Knx] <;> omega) | exact dok (by kernel_rfl)) only [draw_calm, draw_calmA, wpy, fD, reduceLE, reduceLT, reduceLeDiff, UInt8.reduceToNat, ↓reduceIte, reduceEqDiff, reduceAdd, reduceCtorEq, reduceToNat, Tryz.f32, e3, e6, e7, e8, hi2]
    first | exact ⟨hx, hl⟩ | trace_state
def sg1 (ws : List WD) (i : Nat) : List WD := if isS (gw ws i) [[45], [43]] ∧ i + 1 < ws.length ∧ (gw ws (i + 1)).kind = 8 ∧ (i = 0 ∨ isS (gw ws (i - 1)) [[40], [44], [61]]) then [] else [gw ws i]
def sigF (ws : List WD) : List WD := (List.range ws.length).flatMap (sg1 ws)
def sigN (ws : List WD) (i : Nat) : List WD := (List.range i).flatMap (sg1 ws)
omit hS in
theorem sigN_step (ws : List WD) (i : Nat) : sigN ws (i + 1) = sigN ws i ++ sg1 ws i := by
  rw [sigN, List.range_succ, List.flatMap_append]
  simp [sigN]
omit hS in
theorem sg1_len (ws : List WD) (i : Nat) : (sg1 ws i).length ≤ 1 := by unfold sg1; split <;> simp
omit hS in
theorem sigN_len (ws : List WD) : ∀ i, (sigN ws i).length ≤ i
  | 0 => Nat.le_refl _
  | i + 1 => by have h1 := sigN_len ws i; have h2 := sg1_len ws i; rw [sigN_step, List.length_append]; omega
set_option maxHeartbeats 2000000 in
theorem signed_spec (lv : V) (ws : List WD) (h : H) (ha : Wds h lv ws) (hwl : ws.length < 2 ^ 27) : Pure S.cfg 31 [lv] h fun v h' => Wx.Acc h.nx h' v (wcells (sigF ws)) 43 3 := by
  refine into Tryz.f31 _ Tryz.func31 (hS.ownD _ (by decide)) rfl rfl (by kernel_rfl) (by kernel_rfl) ?_
  have a1 := ha.len
  simp +contextual (disch := first | (simp only [fr]; done) | omega | (simp only [Knx]; omega) | (apply Nat.le_antisymm <;> simp only [Knx] <;> omega) | fail) only [wpy, fD, reduceLE, reduceLT, reduceLeDiff, UInt8.reduceToNat, ↓reduceIte, reduceEqDiff, reduceAdd, reduceCtorEq, reduceToNat, Tryz.f31, a1]
  refine run_loop (fun k env h' => ∃ (i : Nat) (l : V), k = ws.length - i ∧ i ≤ ws.length ∧ env 0 = lv ∧ env 3 = l ∧ env 6 = lv ∧ env 7 = .int .i64 ws.length ∧ env 8 = .int .i64 i ∧ Ext h h' ∧ Wx.Acc h.nx h' l (wcells (sigN ws i)) 43 3) ws.length ⟨0, .nilslice, ?_⟩ ?_
  · simp +contextual (disch := first | (simp only [fr]; done) | omega | (simp only [Knx]; omega) | (apply Nat.le_antisymm <;> simp only [Knx] <;> omega) | fail) only [wpy, fD, reduceLE, reduceLT, reduceLeDiff, UInt8.reduceToNat, ↓reduceIte, reduceEqDiff, reduceAdd, reduceCtorEq, reduceToNat]
    exact ⟨by simp, Ext.refl _, .inl ⟨rfl, rfl⟩⟩
  rintro k env h' ⟨i, l, rfl, hi, e0, e3, e6, e7, e8, hx, hl⟩
  have hxn := hx.1
  have hc1 := hl.cell.1
  have hc2 := hl.cell.2
  by_cases hi2 : i < ws.length
  · obtain ⟨b, o, mc, c, fl, rfl, hbn, hgb, w0, w1⟩ := (ha.ext hx).get hi2
    rw [wcell] at w1
    have hbn' : ¬ b = h'.nx := by omega
    have hacc : (sigN ws i).length < 2 ^ 28 := by have := sigN_len ws i; omega
    have hst := sigN_step ws i
    have hend : sg1 ws i = [gw ws i] → ∀ hk : H, Ext h' hk → ∀ v h4, Wx.Acc h.nx h4 v (wcells (sigN ws i ++ [gw ws i])) 43 3 → hk.nx < h4.nx → (∀ k, k < h.nx → h4.get k = hk.get k) → ∃ m', m' < ws.length - i ∧ ∃ (i' : Nat) (l : V), m' = ws.length - i' ∧ i' ≤ ws.length ∧ v = l ∧ i + 1 = i' ∧ Ext h h4 ∧ Wx.Acc h.nx h4 l (wcells (sigN ws i')) 43 3 := fun hw hk hXk v h4 ha4 hn4 hf4 => ⟨_, by omega, i + 1, v, rfl, by omega, rfl, rfl, ⟨by have := hXk.1; omega, fun k hk => by rw [hf4 k hk, hXk.2 k (by omega), hx.2 k hk]⟩, by rw [hst, hw]; exact ha4⟩
    have hskip : sg1 ws i = [] → ∀ hk : H, Ext h' hk → ∃ m', m' < ws.length - i ∧ ∃ (i' : Nat) (l' : V), m' = ws.length - i' ∧ i' ≤ ws.length ∧ l = l' ∧ i + 1 = i' ∧ Ext h hk ∧ Wx.Acc h.nx hk l' (wcells (sigN ws i')) 43 3 := fun hw hk hXk => ⟨_, by omega, i + 1, l, rfl, by omega, rfl, rfl, hx.trans hXk, by rw [hst, hw, List.append_nil]; exact hl.ext hXk⟩
    obtain ⟨b2, o2, m2, c2, fl2, hq, hm2, hb2, hg2, hw1, hw2, -⟩ := (ha.ext hx).opened (by omega)
    cases hq
    have hc : c2 = c := by rw [hgb] at hg2; cases hg2; rfl
    subst hc
    simp +contextual (disch := first | (simp only [fr]; done) | omega | (simp only [Knx]; omega) | (apply Nat.le_antisymm <;> simp only [Knx] <;> omega) | exact dok (by kernel_rfl)) only [draw_calm, draw_calmA, wpy, fD, reduceLE, reduceLT, reduceLeDiff, UInt8.reduceToNat, ↓reduceIte, reduceEqDiff, reduceAdd, reduceCtorEq, reduceToNat, Tryz.f31, e0, e3, e6, e7, e8, hi2, hgb, hbn', w0, w1]
    refine ⟨.inr hxn, callF_pure (dsign_new hS (gw ws i) [[45], [43]] 2 _ 9 false _ rfl rfl (by decide)) ?_⟩
    rintro v h3 hx3 rfl
    have hX3 : Ext h' h3 := ((Ext.new h' _ _).push _).trans hx3
    have g3 : h3.get h'.nx = some (.cells [.int .i64 (gw ws i).kind, .str (gw ws i).text, .int .i64 (gw ws i).at_] 43 false) := by rw [hx3.2 h'.nx (by show h'.nx < h'.nx + 1 + 1; omega), push_ne (by show ¬ h'.nx = h'.nx + 1; omega), put_eq rfl]
    have gb3 : h3.get b = some (.cells c2 43 fl) := by rw [hX3.2 b hbn]; exact hgb
    by_cases c0 : isS (gw ws i) [[45], [43]]
    · by_cases k1 : i + 1 < ws.length
      · have u1 := hw1 (i + 1) k1
        have x1 := hw2 (i + 1) k1
        simp +contextual (disch := first | (simp only [fr]; done) | omega | (simp only [Knx]; omega) | (apply Nat.le_antisymm <;> simp only [Knx] <;> omega) | exact dok (by kernel_rfl)) only [draw_calm, draw_calmA, wpy, fD, reduceLE, reduceLT, reduceLeDiff, UInt8.reduceToNat, ↓reduceIte, reduceEqDiff, reduceAdd, reduceCtorEq, reduceToNat, Tryz.f31, e0, e3, e6, e7, e8, hi2, c0, k1, gb3, u1, x1]
        refine callF_pure (param_spec hS (gw ws (i + 1)) _) ?_
        rintro v h5 hx5 rfl
        have hX5 : Ext h' h5 := hX3.trans hx5
        have g5 : h5.get h'.nx = some (.cells [.int .i64 (gw ws i).kind, .str (gw ws i).text, .int .i64 (gw ws i).at_] 43 false) := by rw [hx5.2 h'.nx (Nat.lt_of_lt_of_le (show h'.nx < h'.nx + 1 + 1 by omega) hx3.1)]; exact g3
        have gb5 : h5.get b = some (.cells c2 43 fl) := by rw [hX5.2 b hbn]; exact hgb
        by_cases c1 : (gw ws (i + 1)).kind = 8
        · by_cases c2' : i = 0
          · have hv : sg1 ws i = [] := by rw [sg1, if_pos ⟨c0, k1, c1, .inl c2'⟩]
            have c2t := eq_true c2'
            simp +contextual (disch := first | (simp only [fr]; done) | omega | (simp only [Knx]; omega) | (apply Nat.le_antisymm <;> simp only [Knx] <;> omega) | fail) only [wpy, fD, reduceLE, reduceLT, reduceLeDiff, UInt8.reduceToNat, ↓reduceIte, reduceEqDiff, reduceAdd, reduceCtorEq, reduceToNat, Tryz.f31, e0, e3, e6, e7, e8, hi2, c0, k1, c1, c2t]
            exact hskip hv _ hX5
          · obtain ⟨j, rfl⟩ : ∃ j, i = j + 1 := ⟨i - 1, by omega⟩
            have k0 : j < ws.length := by omega
            have u0 := hw1 j k0
            have x0 := hw2 j k0
            simp +contextual (disch := first | (simp only [fr]; done) | omega | (simp only [Knx]; omega) | (apply Nat.le_antisymm <;> simp only [Knx] <;> omega) | fail) only [wpy, fD, reduceLE, reduceLT, reduceLeDiff, UInt8.reduceToNat, ↓reduceIte, reduceEqDiff, reduceAdd, reduceCtorEq, reduceToNat, Tryz.f31, e0, e3, e6, e7, e8, hi2, c0, k1, c1, k0, gb5, u0, x0, Nat.add_sub_cancel]
            refine callF_pure (dsign_new hS (gw ws j) [[40], [44], [61]] 3 _ 9 false _ rfl rfl (by decide)) ?_
            rintro v h6 hx6 rfl
            have hX6 : Ext h' h6 := (hX5.push _).trans hx6
            have g6 : h6.get h'.nx = some (.cells [.int .i64 (gw ws (j + 1)).kind, .str (gw ws (j + 1)).text, .int .i64 (gw ws (j + 1)).at_] 43 false) := by rw [hx6.2 h'.nx (by have := hx5.1; have := hx3.1; simp only [push_nx, put_nx] at *; omega), push_ne (by have := hx5.1; have := hx3.1; simp only [push_nx, put_nx] at *; omega)]; exact g5
            by_cases c3 : isS (gw ws j) [[40], [44], [61]]
            · have hv : sg1 ws (j + 1) = [] := by rw [sg1, if_pos ⟨c0, k1, c1, .inr c3⟩]
              simp +contextual (disch := first | (simp only [fr]; done) | omega | (simp only [Knx]; omega) | (apply Nat.le_antisymm <;> simp only [Knx] <;> omega) | fail) only [wpy, fD, reduceLE, reduceLT, reduceLeDiff, UInt8.reduceToNat, ↓reduceIte, reduceEqDiff, reduceAdd, reduceCtorEq, reduceToNat, Tryz.f31, e0, e3, e6, e7, e8, hi2, c0, k1, c1, c3]
              exact hskip hv _ hX6
            · have hv : sg1 ws (j + 1) = [gw ws (j + 1)] := by
                rw [sg1, if_neg]
                rintro ⟨q1, q2, q3, q4 | q4⟩
                · omega
                · exact c3 q4
              simp +contextual (disch := first | (simp only [fr]; done) | omega | (simp only [Knx]; omega) | (apply Nat.le_antisymm <;> simp only [Knx] <;> omega) | fail) only [wpy, fD, reduceLE, reduceLT, reduceLeDiff, UInt8.reduceToNat, ↓reduceIte, reduceEqDiff, reduceAdd, reduceCtorEq, reduceToNat, Tryz.f31, e0, e3, e6, e7, e8, hi2, c0, k1, c1, c3, g6]
              refine app_word (n0 := h.nx) (l := l) (acc := sigN ws (j + 1)) (gw ws (j + 1)) (by simp +contextual (disch := first | (simp only [fr]; done) | omega | (simp only [Knx]; omega) | (apply Nat.le_antisymm <;> simp only [Knx] <;> omega) | fail) only [wpy, fD, reduceLE, reduceLT, reduceLeDiff, UInt8.reduceToNat, ↓reduceIte, reduceEqDiff, reduceAdd, reduceCtorEq, reduceToNat]) (by simp +contextual (disch := first | (simp only [fr]; done) | omega | (simp only [Knx]; omega) | (apply Nat.le_antisymm <;> simp only [Knx] <;> omega) | fail) only [wpy, fD, reduceLE, reduceLT, reduceLeDiff, UInt8.reduceToNat, ↓reduceIte, reduceEqDiff, reduceAdd, reduceCtorEq, reduceToNat]) (hl.ext hX6) hacc (fun k hk => by rw [fresh_def]; exact .inl hk) (Nat.le_trans hxn hX6.1) ?_
              intro v h4 L ha4 hn4 hf4
              have hv1 := ha4.cell.1
              have hv2 := ha4.cell.2
              simp +contextual (disch := first | (simp only [fr]; done) | omega | (simp only [Knx]; omega) | (apply Nat.le_antisymm <;> simp only [Knx] <;> omega) | fail) only [wpy, fD, reduceLE, reduceLT, reduceLeDiff, UInt8.reduceToNat, ↓reduceIte, reduceEqDiff, reduceAdd, reduceCtorEq, reduceToNat, Tryz.f31, e0, e3, e6, e7, e8, hi2, hv1, hv2]
              exact hend hv _ hX6 v h4 ha4 hn4 hf4
        · have hv : sg1 ws i = [gw ws i] := by
            rw [sg1, if_neg]
            rintro ⟨q1, q2, q3, q4⟩
            exact c1 q3
          simp +contextual (disch := first | (simp only [fr]; done) | omega | (simp only [Knx]; omega) | (apply Nat.le_antisymm <;> simp only [Knx] <;> omega) | fail) only [wpy, fD, reduceLE, reduceLT, reduceLeDiff, UInt8.reduceToNat, ↓reduceIte, reduceEqDiff, reduceAdd, reduceCtorEq, reduceToNat, Tryz.f31, e0, e3, e6, e7, e8, hi2, c0, k1, c1, g5]
          refine app_word (n0 := h.nx) (l := l) (acc := sigN ws i) (gw ws i) (by simp +contextual (disch := first | (simp only [fr]; done) | omega | (simp only [Knx]; omega) | (apply Nat.le_antisymm <;> simp only [Knx] <;> omega) | fail) only [wpy, fD, reduceLE, reduceLT, reduceLeDiff, UInt8.reduceToNat, ↓reduceIte, reduceEqDiff, reduceAdd, reduceCtorEq, reduceToNat]) (by simp +contextual (disch := first | (simp only [fr]; done) | omega | (simp only [Knx]; omega) | (apply Nat.le_antisymm <;> simp only [Knx] <;> omega) | fail) only [wpy, fD, reduceLE, reduceLT, reduceLeDiff, UInt8.reduceToNat, ↓reduceIte, reduceEqDiff, reduceAdd, reduceCtorEq, reduceToNat]) (hl.ext hX5) hacc (fun k hk => by rw [fresh_def]; exact .inl hk) (Nat.le_trans hxn hX5.1) ?_
          intro v h4 L ha4 hn4 hf4
          have hv1 := ha4.cell.1
          have hv2 := ha4.cell.2
          simp +contextual (disch := first | (simp only [fr]; done) | omega | (simp only [Knx]; omega) | (apply Nat.le_antisymm <;> simp only [Knx] <;> omega) | fail) only [wpy, fD, reduceLE, reduceLT, reduceLeDiff, UInt8.reduceToNat, ↓reduceIte, reduceEqDiff, reduceAdd, reduceCtorEq, reduceToNat, Tryz.f31, e0, e3, e6, e7, e8, hi2, hv1, hv2]
          exact hend hv _ hX5 v h4 ha4 hn4 hf4
      · have hv : sg1 ws i = [gw ws i] := by
          rw [sg1, if_neg]
          rintro ⟨q1, q2, q3, q4⟩
          exact k1 q2
        simp +contextual (disch := first | (simp only [fr]; done) | omega | (simp only [Knx]; omega) | (apply Nat.le_antisymm <;> simp only [Knx] <;> omega) | fail) only [wpy, fD, reduceLE, reduceLT, reduceLeDiff, UInt8.reduceToNat, ↓reduceIte, reduceEqDiff, reduceAdd, reduceCtorEq, reduceToNat, Tryz.f31, e0, e3, e6, e7, e8, hi2, c0, k1, g3]
        refine app_word (n0 := h.nx) (l := l) (acc := sigN ws i) (gw ws i) (by simp +contextual (disch := first | (simp only [fr]; done) | omega | (simp only [Knx]; omega) | (apply Nat.le_antisymm <;> simp only [Knx] <;> omega) | fail) only [wpy, fD, reduceLE, reduceLT, reduceLeDiff, UInt8.reduceToNat, ↓reduceIte, reduceEqDiff, reduceAdd, reduceCtorEq, reduceToNat]) (by simp +contextual (disch := first | (simp only [fr]; done) | omega | (simp only [Knx]; omega) | (apply Nat.le_antisymm <;> simp only [Knx] <;> omega) | fail) only [wpy, fD, reduceLE, reduceLT, reduceLeDiff, UInt8.reduceToNat, ↓reduceIte, reduceEqDiff, reduceAdd, reduceCtorEq, reduceToNat]) (hl.ext hX3) hacc (fun k hk => by rw [fresh_def]; exact .inl hk) (Nat.le_trans hxn hX3.1) ?_
        intro v h4 L ha4 hn4 hf4
        have hv1 := ha4.cell.1
        have hv2 := ha4.cell.2
        simp +contextual (disch := first | (simp only [fr]; done) | omega | (simp only [Knx]; omega) | (apply Nat.le_antisymm <;> simp only [Knx] <;> omega) | fail) only [wpy, fD, reduceLE, reduceLT, reduceLeDiff, UInt8.reduceToNat, ↓reduceIte, reduceEqDiff, reduceAdd, reduceCtorEq, reduceToNat, Tryz.f31, e0, e3, e6, e7, e8, hi2, hv1, hv2]
        exact hend hv _ hX3 v h4 ha4 hn4 hf4
    · have hv : sg1 ws i = [gw ws i] := by
        rw [sg1, if_neg]
        rintro ⟨q1, q2, q3, q4⟩
        exact c0 q1
      simp +contextual (disch := first | (simp only [fr]; done) | omega | (simp only [Knx]; omega) | (apply Nat.le_antisymm <;> simp only [Knx] <;> omega) | fail) only [wpy, fD, reduceLE, reduceLT, reduceLeDiff, UInt8.reduceToNat, ↓reduceIte, reduceEqDiff, reduceAdd, reduceCtorEq, reduceToNat, Tryz.f31, e0, e3, e6, e7, e8, hi2, c0, g3]
      refine app_word (n0 := h.nx) (l := l) (acc := sigN ws i) (gw ws i) (by simp +contextual (disch := first | (simp only [fr]; done) | omega | (simp only [Knx]; omega) | (apply Nat.le_antisymm <;> simp only [Knx] <;> omega) | fail) only [wpy, fD, reduceLE, reduceLT, reduceLeDiff, UInt8.reduceToNat, ↓reduceIte, reduceEqDiff, reduceAdd, reduceCtorEq, reduceToNat]) (by simp +contextual (disch := first | (simp only [fr]; done) | omega | (simp only [Knx]; omega) | (apply Nat.le_antisymm <;> simp only [Knx] <;> omega) | fail) only [wpy, fD, reduceLE, reduceLT, reduceLeDiff, UInt8.reduceToNat, ↓reduceIte, reduceEqDiff, reduceAdd, reduceCtorEq, reduceToNat]) (hl.ext hX3) hacc (fun k hk => by rw [fresh_def]; exact .inl hk) (Nat.le_trans hxn hX3.1) ?_
      intro v h4 L ha4 hn4 hf4
      have hv1 := ha4.cell.1
      have hv2 := ha4.cell.2
      simp +contextual (disch := first | (simp only [fr]; done) | omega | (simp only [Knx]; omega) | (apply Nat.le_antisymm <;> simp only [Knx] <;> omega) | fail) only [wpy, fD, reduceLE, reduceLT, reduceLeDiff, UInt8.reduceToNat, ↓reduceIte, reduceEqDiff, reduceAdd, reduceCtorEq, reduceToNat, Tryz.f31, e0, e3, e6, e7, e8, hi2, hv1, hv2]
      exact hend hv _ hX3 v h4 ha4 hn4 hf4
  · have hle : i = ws.length := by omega
    subst hle
    simp +contextual (disch := first | (simp only [fr]; done) | omega | (simp only [Knx]; omega) | (apply Nat.le_antisymm <;> simp only [Knx] <;> omega) | exact dok (by kernel_rfl)) only [draw_calm, draw_calmA, wpy, fD, reduceLE, reduceLT, reduceLeDiff, UInt8.reduceToNat, ↓reduceIte, reduceEqDiff, reduceAdd, reduceCtorEq, reduceToNat, Tryz.f31, e0, e3, e6, e7, e8, hi2]
    first | exact ⟨hx, hl⟩ | trace_state
end
end Go.Proofs.YtkibhdbmamfjcaaGreatDoor
set_option maxHeartbeats 1000000
set_option linter.unusedSimpArgs false
set_option linter.unusedVariables false
set_option linter.defProp false
set_option maxRecDepth 10000
namespace Go.Proofs.YtkibhdbmamfjcaaGreatDoor
open Int (reduceLE reduceLT reduceToNat)
open Nat (reduceLeDiff reduceEqDiff reduceAdd)
open Go.Proofs Go.Lx Go.Wx Go.IntWalk
noncomputable section
def aloneG : List WD → Prop
  | a :: b :: c :: _ => isS a [[40]] ∧ b.kind = 8 ∧ isS c [[41]]
  | _ => False
noncomputable instance (l : List WD) : Decidable (aloneG l) := Classical.propDecidable _
theorem aloneG_at {ws : List WD} {i : Nat} (h : i + 3 ≤ ws.length) : aloneG (ws.drop i) = (isS (gw ws i) [[40]] ∧ (gw ws (i + 1)).kind = 8 ∧ isS (gw ws (i + 2)) [[41]]) := by
  rw [drop_gw (show i < ws.length by omega), drop_gw (show i + 1 < ws.length by omega), drop_gw (show i + 1 + 1 < ws.length by omega)]
  first | done | rfl
theorem aloneG_no {ws : List WD} {i : Nat} (h : ¬ i + 3 ≤ ws.length) : aloneG (ws.drop i) = False := by
  have hl : (ws.drop i).length < 3 := by rw [List.length_drop]; omega
  generalize ws.drop i = l at hl
  match l, hl with
  | [], _ => rfl
  | [a], _ => rfl
  | [a, b], _ => rfl
  | a :: b :: c :: r, q => exact absurd q (by simp)
def rowT : List WD → Nat → Nat
  | w :: s :: r, k => if w.kind = 8 then (if isS s [[41]] then k + 2 else if isS s [[44]] then rowT r (k + 2) else 0) else 0
  | _, _ => 0
def rowG : List WD → Nat
  | [] => 0
  | w :: r => if isS w [[40]] then rowT r 1 else 0

variable {S : Set0} (hS : StdD S)
include hS
set_option maxHeartbeats 1000000 in
theorem alone_spec (lv : V) (ws : List WD) (i : Nat) (h : H) (ha : Wds h lv ws) (hwl : ws.length < 2 ^ 27) (hi : i < 2 ^ 28) : Pure S.cfg 64 [lv, .int .i64 i] h fun v _ => v = bo (aloneG (ws.drop i)) := by
  refine into Tryz.f64 _ Tryz.func64 (hS.ownD _ (by decide)) rfl rfl (by kernel_rfl) (by kernel_rfl) ?_
  have a1 := ha.len
  by_cases h3 : i + 3 ≤ ws.length
  · rw [aloneG_at h3]
    obtain ⟨b, o, m, c, fl, rfl, hm, hb, hg, hc1, hc2, -⟩ := ha.opened (by omega)
    have u0 := hc1 i (by omega)
    have u1 := hc1 (i + 1) (by omega)
    have u2 := hc1 (i + 2) (by omega)
    have w0 := hc2 i (by omega)
    have w1 := hc2 (i + 1) (by omega)
    have w2 := hc2 (i + 2) (by omega)
    have k0 : i < ws.length := by omega
    have k1 : i + 1 < ws.length := by omega
    have k2 : i + 2 < ws.length := by omega
    simp +contextual (disch := first | (simp only [fr]; done) | omega | (simp only [Knx]; omega) | (apply Nat.le_antisymm <;> simp only [Knx] <;> omega) | fail) only [wpy, fD, reduceLE, reduceLT, reduceLeDiff, UInt8.reduceToNat, ↓reduceIte, reduceEqDiff, reduceAdd, reduceCtorEq, reduceToNat, Tryz.f64, a1, h3, hg, u0, u1, u2, w0, w1, w2, k0, k1, k2]
    refine callF_pure (dsign_new hS (gw ws i) [[40]] 1 _ 9 false _ rfl rfl (by decide)) ?_
    rintro v h1 hx1 rfl
    have hX1 : Ext h h1 := ((Ext.refl h).push _).trans hx1
    have hg1 : h1.get b = some (.cells c 43 fl) := by rw [hX1.2 b hb]; exact hg
    by_cases c0 : isS (gw ws i) [[40]]
    · simp +contextual (disch := first | (simp only [fr]; done) | omega | (simp only [Knx]; omega) | (apply Nat.le_antisymm <;> simp only [Knx] <;> omega) | fail) only [wpy, fD, reduceLE, reduceLT, reduceLeDiff, UInt8.reduceToNat, ↓reduceIte, reduceEqDiff, reduceAdd, reduceCtorEq, reduceToNat, Tryz.f64, a1, h3, hg1, u0, u1, u2, w0, w1, w2, k0, k1, k2, c0]
      refine callF_pure (param_spec hS (gw ws (i + 1)) _) ?_
      rintro v h2 hx2 rfl
      have hX2 : Ext h h2 := hX1.trans hx2
      have hg2 : h2.get b = some (.cells c 43 fl) := by rw [hX2.2 b hb]; exact hg
      by_cases c1 : (gw ws (i + 1)).kind = 8
      · simp +contextual (disch := first | (simp only [fr]; done) | omega | (simp only [Knx]; omega) | (apply Nat.le_antisymm <;> simp only [Knx] <;> omega) | fail) only [wpy, fD, reduceLE, reduceLT, reduceLeDiff, UInt8.reduceToNat, ↓reduceIte, reduceEqDiff, reduceAdd, reduceCtorEq, reduceToNat, Tryz.f64, a1, h3, hg2, u0, u1, u2, w0, w1, w2, k0, k1, k2, c0, c1]
        refine callF_pure (dsign_new hS (gw ws (i + 2)) [[41]] 1 _ 9 false _ rfl rfl (by decide)) ?_
        rintro v h3 hx3 rfl
        have hX3 : Ext h h3 := (hX2.push _).trans hx3
        simp +contextual (disch := first | (simp only [fr]; done) | omega | (simp only [Knx]; omega) | (apply Nat.le_antisymm <;> simp only [Knx] <;> omega) | fail) only [wpy, fD, reduceLE, reduceLT, reduceLeDiff, UInt8.reduceToNat, ↓reduceIte, reduceEqDiff, reduceAdd, reduceCtorEq, reduceToNat, Tryz.f64, c0, c1]
        first | exact hX3 | exact ⟨hX3, rfl⟩ | trace_state
      · simp +contextual (disch := first | (simp only [fr]; done) | omega | (simp only [Knx]; omega) | (apply Nat.le_antisymm <;> simp only [Knx] <;> omega) | fail) only [wpy, fD, reduceLE, reduceLT, reduceLeDiff, UInt8.reduceToNat, ↓reduceIte, reduceEqDiff, reduceAdd, reduceCtorEq, reduceToNat, Tryz.f64, a1, h3, hg2, u0, u1, u2, w0, w1, w2, k0, k1, k2, c0, c1]
        first | exact hX2 | exact ⟨hX2, rfl⟩ | trace_state
    · simp +contextual (disch := first | (simp only [fr]; done) | omega | (simp only [Knx]; omega) | (apply Nat.le_antisymm <;> simp only [Knx] <;> omega) | fail) only [wpy, fD, reduceLE, reduceLT, reduceLeDiff, UInt8.reduceToNat, ↓reduceIte, reduceEqDiff, reduceAdd, reduceCtorEq, reduceToNat, Tryz.f64, a1, h3, hg1, u0, u1, u2, w0, w1, w2, k0, k1, k2, c0]
      first | exact hX1 | exact ⟨hX1, rfl⟩ | trace_state
  · rw [aloneG_no h3]
    simp +contextual (disch := first | (simp only [fr]; done) | omega | (simp only [Knx]; omega) | (apply Nat.le_antisymm <;> simp only [Knx] <;> omega) | fail) only [wpy, fD, reduceLE, reduceLT, reduceLeDiff, UInt8.reduceToNat, ↓reduceIte, reduceEqDiff, reduceAdd, reduceCtorEq, reduceToNat, Tryz.f64, a1, h3]
    first | exact Ext.refl _ | exact ⟨Ext.refl _, rfl⟩ | trace_state
set_option maxHeartbeats 2000000 in
theorem row_spec (lv : V) (ws : List WD) (a : Nat) (h : H) (ha : Wds h lv ws) (hwl : ws.length < 2 ^ 27) (hi : a < 2 ^ 28) : Pure S.cfg 65 [lv, .int .i64 a] h fun v _ => v = .int .i64 (rowG (ws.drop a)) := by
  refine into Tryz.f65 _ Tryz.func65 (hS.ownD _ (by decide)) rfl rfl (by kernel_rfl) (by kernel_rfl) ?_
  have a1 := ha.len
  by_cases h3 : a < ws.length
  · have h3' : ¬ ws.length ≤ a := by omega
    obtain ⟨b, o, m, c, fl, rfl, hm, hb, hg, hc1, hc2, -⟩ := ha.opened (by omega)
    have u0 := hc1 a h3
    have w0 := hc2 a h3
    have hd := drop_gw h3
    simp +contextual (disch := first | (simp only [fr]; done) | omega | (simp only [Knx]; omega) | (apply Nat.le_antisymm <;> simp only [Knx] <;> omega) | fail) only [wpy, fD, reduceLE, reduceLT, reduceLeDiff, UInt8.reduceToNat, ↓reduceIte, reduceEqDiff, reduceAdd, reduceCtorEq, reduceToNat, Tryz.f65, a1, h3, h3', hg, u0, w0]
    refine callF_pure (dsign_new hS (gw ws a) [[40]] 1 _ 9 false _ rfl rfl (by decide)) ?_
    rintro v h1 hx1 rfl
    have hX1 : Ext h h1 := ((Ext.refl h).push _).trans hx1
    by_cases c0 : isS (gw ws a) [[40]]
    · have hrow : rowG (ws.drop a) = rowT (ws.drop (a + 1)) 1 := by rw [hd, rowG, if_pos c0]
      simp +contextual (disch := first | (simp only [fr]; done) | omega | (simp only [Knx]; omega) | (apply Nat.le_antisymm <;> simp only [Knx] <;> omega) | fail) only [wpy, fD, reduceLE, reduceLT, reduceLeDiff, UInt8.reduceToNat, ↓reduceIte, reduceEqDiff, reduceAdd, reduceCtorEq, reduceToNat, Tryz.f65, a1, h3, h3', c0]
      refine run_loop (fun k env h' => ∃ (i : Nat), k = ws.length + 2 - i ∧ a < i ∧ i < ws.length + 2 ∧ env 0 = .slice b o ws.length m ∧ env 1 = .int .i64 a ∧ env 5 = .int .i64 i ∧ Ext h h' ∧ rowG (ws.drop a) = rowT (ws.drop i) (i - a)) (ws.length + 2 - (a + 1)) ⟨a + 1, ?_⟩ ?_
      · simp +contextual (disch := first | (simp only [fr]; done) | omega | (simp only [Knx]; omega) | (apply Nat.le_antisymm <;> simp only [Knx] <;> omega) | fail) only [wpy, fD, reduceLE, reduceLT, reduceLeDiff, UInt8.reduceToNat, ↓reduceIte, reduceEqDiff, reduceAdd, reduceCtorEq, reduceToNat]
        exact ⟨by omega, by omega, hX1, by rw [hrow, Nat.add_sub_cancel_left]⟩
      rintro k env h' ⟨i, rfl, hai, hil, e0, e1, e5, hx, hr⟩
      have hgh : h'.get b = some (.cells c 43 fl) := by rw [hx.2 b hb]; exact hg
      by_cases k0 : i < ws.length
      · have u0 := hc1 i k0
        have w0 := hc2 i k0
        have hd0 := drop_gw k0
        simp +contextual (disch := first | (simp only [fr]; done) | omega | (simp only [Knx]; omega) | (apply Nat.le_antisymm <;> simp only [Knx] <;> omega) | fail) only [wpy, fD, reduceLE, reduceLT, reduceLeDiff, UInt8.reduceToNat, ↓reduceIte, reduceEqDiff, reduceAdd, reduceCtorEq, reduceToNat, Tryz.f65, e0, e1, e5, k0, hgh, u0, w0]
        refine callF_pure (param_spec hS (gw ws i) _) ?_
        rintro v h2 hx2 rfl
        have hX2 : Ext h h2 := hx.trans hx2
        have hg2 : h2.get b = some (.cells c 43 fl) := by rw [hX2.2 b hb]; exact hg
        by_cases c1 : (gw ws i).kind = 8
        · by_cases k1 : i + 1 < ws.length
          · have u1 := hc1 (i + 1) k1
            have w1 := hc2 (i + 1) k1
            have hd1 := drop_gw k1
            rw [hd0, hd1, rowT, if_pos c1] at hr
            simp +contextual (disch := first | (simp only [fr]; done) | omega | (simp only [Knx]; omega) | (apply Nat.le_antisymm <;> simp only [Knx] <;> omega) | fail) only [wpy, fD, reduceLE, reduceLT, reduceLeDiff, UInt8.reduceToNat, ↓reduceIte, reduceEqDiff, reduceAdd, reduceCtorEq, reduceToNat, Tryz.f65, e0, e1, e5, k0, hg2, c1, k1, u1, w1]
            refine callF_pure (dsign_new hS (gw ws (i + 1)) [[41]] 1 _ 9 false _ rfl rfl (by decide)) ?_
            rintro v h3 hx3 rfl
            have hX3 : Ext h h3 := (hX2.push _).trans hx3
            have hg3 : h3.get b = some (.cells c 43 fl) := by rw [hX3.2 b hb]; exact hg
            by_cases c2 : isS (gw ws (i + 1)) [[41]]
            · rw [if_pos c2] at hr
              simp +contextual (disch := first | (simp only [fr]; done) | omega | (simp only [Knx]; omega) | (apply Nat.le_antisymm <;> simp only [Knx] <;> omega) | fail) only [wpy, fD, reduceLE, reduceLT, reduceLeDiff, UInt8.reduceToNat, ↓reduceIte, reduceEqDiff, reduceAdd, reduceCtorEq, reduceToNat, Tryz.f65, e0, e1, e5, k0, c1, k1, c2]
              exact ⟨hX3, by rw [hr]; omega⟩
            · rw [if_neg c2] at hr
              have k2 : ¬ i + 1 = ws.length := by omega
              simp +contextual (disch := first | (simp only [fr]; done) | omega | (simp only [Knx]; omega) | (apply Nat.le_antisymm <;> simp only [Knx] <;> omega) | fail) only [wpy, fD, reduceLE, reduceLT, reduceLeDiff, UInt8.reduceToNat, ↓reduceIte, reduceEqDiff, reduceAdd, reduceCtorEq, reduceToNat, Tryz.f65, e0, e1, e5, k0, c1, k1, c2, k2, hg3, u1, w1]
              refine callF_pure (dsign_new hS (gw ws (i + 1)) [[44]] 1 _ 9 false _ rfl rfl (by decide)) ?_
              rintro v h4 hx4 rfl
              have hX4 : Ext h h4 := (hX3.push _).trans hx4
              by_cases c3 : isS (gw ws (i + 1)) [[44]]
              · rw [if_pos c3] at hr
                simp +contextual (disch := first | (simp only [fr]; done) | omega | (simp only [Knx]; omega) | (apply Nat.le_antisymm <;> simp only [Knx] <;> omega) | fail) only [wpy, fD, reduceLE, reduceLT, reduceLeDiff, UInt8.reduceToNat, ↓reduceIte, reduceEqDiff, reduceAdd, reduceCtorEq, reduceToNat, Tryz.f65, e0, e1, e5, k0, c1, k1, c2, c3, k2]
                exact ⟨_, by omega, i + 1 + 1, rfl, by omega, by omega, rfl, hX4, by rw [hr, show i + 1 + 1 - a = i - a + 2 by omega]⟩
              · rw [if_neg c3] at hr
                simp +contextual (disch := first | (simp only [fr]; done) | omega | (simp only [Knx]; omega) | (apply Nat.le_antisymm <;> simp only [Knx] <;> omega) | fail) only [wpy, fD, reduceLE, reduceLT, reduceLeDiff, UInt8.reduceToNat, ↓reduceIte, reduceEqDiff, reduceAdd, reduceCtorEq, reduceToNat, Tryz.f65, e0, e1, e5, k0, c1, k1, c2, c3, k2]
                exact ⟨hX4, hr.symm⟩
          · have hlen : i + 1 = ws.length := by omega
            have hdn : ws.drop (i + 1) = [] := List.drop_eq_nil_of_le (by omega)
            rw [hd0, hdn] at hr
            have hlt := eq_true hlen
            simp +contextual (disch := first | (simp only [fr]; done) | omega | (simp only [Knx]; omega) | (apply Nat.le_antisymm <;> simp only [Knx] <;> omega) | fail) only [wpy, fD, reduceLE, reduceLT, reduceLeDiff, UInt8.reduceToNat, ↓reduceIte, reduceEqDiff, reduceAdd, reduceCtorEq, reduceToNat, Tryz.f65, e0, e1, e5, k0, hg2, c1, k1, hlt]
            exact ⟨hX2, hr.symm⟩
        · have hr0 : rowG (ws.drop a) = 0 := by
            rw [hr, hd0]
            cases hdr : ws.drop (i + 1) with
            | nil => rfl
            | cons s r => rw [rowT, if_neg c1]
          simp +contextual (disch := first | (simp only [fr]; done) | omega | (simp only [Knx]; omega) | (apply Nat.le_antisymm <;> simp only [Knx] <;> omega) | fail) only [wpy, fD, reduceLE, reduceLT, reduceLeDiff, UInt8.reduceToNat, ↓reduceIte, reduceEqDiff, reduceAdd, reduceCtorEq, reduceToNat, Tryz.f65, e0, e1, e5, k0, c1]
          exact ⟨hX2, hr0.symm⟩
      · have hr0 : rowG (ws.drop a) = 0 := by rw [hr, List.drop_eq_nil_of_le (by omega)]; rfl
        simp +contextual (disch := first | (simp only [fr]; done) | omega | (simp only [Knx]; omega) | (apply Nat.le_antisymm <;> simp only [Knx] <;> omega) | fail) only [wpy, fD, reduceLE, reduceLT, reduceLeDiff, UInt8.reduceToNat, ↓reduceIte, reduceEqDiff, reduceAdd, reduceCtorEq, reduceToNat, Tryz.f65, e0, e1, e5, k0]
        exact ⟨hx, hr0.symm⟩
    · have hr0 : rowG (ws.drop a) = 0 := by rw [hd, rowG, if_neg c0]
      simp +contextual (disch := first | (simp only [fr]; done) | omega | (simp only [Knx]; omega) | (apply Nat.le_antisymm <;> simp only [Knx] <;> omega) | fail) only [wpy, fD, reduceLE, reduceLT, reduceLeDiff, UInt8.reduceToNat, ↓reduceIte, reduceEqDiff, reduceAdd, reduceCtorEq, reduceToNat, Tryz.f65, a1, h3, h3', c0, hr0]
      first | exact hX1 | exact ⟨hX1, rfl⟩ | trace_state
  · have h3' : ws.length ≤ a := by omega
    have hr0 : rowG (ws.drop a) = 0 := by rw [List.drop_eq_nil_of_le (by omega)]; rfl
    simp +contextual (disch := first | (simp only [fr]; done) | omega | (simp only [Knx]; omega) | (apply Nat.le_antisymm <;> simp only [Knx] <;> omega) | fail) only [wpy, fD, reduceLE, reduceLT, reduceLeDiff, UInt8.reduceToNat, ↓reduceIte, reduceEqDiff, reduceAdd, reduceCtorEq, reduceToNat, Tryz.f65, a1, h3, h3', hr0]
    first | exact Ext.refl _ | exact ⟨Ext.refl _, rfl⟩ | trace_state
end
end Go.Proofs.YtkibhdbmamfjcaaGreatDoor
set_option maxHeartbeats 1000000
set_option linter.unusedSimpArgs false
set_option linter.unusedVariables false
set_option linter.defProp false
set_option maxRecDepth 10000
namespace Go.Proofs.YtkibhdbmamfjcaaGreatDoor
open Int (reduceLE reduceLT reduceToNat)
open Nat (reduceLeDiff reduceEqDiff reduceAdd)
open Go.Proofs Go.Lx Go.Wx Go.IntWalk
noncomputable section

theorem gw_drop (ws : List WD) (i k : Nat) : gw (ws.drop i) k = gw ws (i + k) := by
  unfold gw
  rw [List.getD_eq_getElem?_getD, List.getD_eq_getElem?_getD, List.getElem?_drop]
theorem rowT_le : ∀ (l : List WD) (k : Nat), rowT l k ≤ k + l.length ∧ (rowT l k = 0 ∨ k + 2 ≤ rowT l k)
  | [], k => by simp [rowT]
  | [w], k => by simp [rowT]
  | w :: s :: r, k => by
    have ih := rowT_le r (k + 2)
    rw [rowT, List.length_cons, List.length_cons]
    split
    · split
      · omega
      · split
        · omega
        · omega
    · omega
theorem rowG_le (l : List WD) : rowG l ≤ l.length ∧ (rowG l = 0 ∨ 3 ≤ rowG l) := by
  cases l with
  | nil => simp [rowG]
  | cons w r =>
    rw [rowG, List.length_cons]
    have := rowT_le r 1
    split <;> omega
def rowsT : Nat → List WD → List WD
  | 0, _ => []
  | f + 1, l => if l = [] then [] else if rowG l = 0 then gw l 0 :: rowsT f (l.drop 1) else gw l 0 :: gw l 1 :: gw l (rowG l - 1) :: rowsT f (l.drop (rowG l))
def rowsF (ws : List WD) : List WD := rowsT (ws.length + 1) ws
def skipT : Nat → List WD → List WD
  | 0, l => l
  | f + 1, l => if l ≠ [] ∧ isS (gw l 0) [[44]] ∧ aloneG (l.drop 1) then skipT f (l.drop 4) else l
def listsT : Nat → List WD → List WD
  | 0, _ => []
  | f + 1, l => if l = [] then [] else if aloneG l then l.take 3 ++ listsT f (skipT l.length (l.drop 3)) else gw l 0 :: listsT f (l.drop 1)
def listsF (ws : List WD) : List WD := listsT (ws.length + 1) ws
theorem wdrop_ne {ws : List WD} {i : Nat} (h : i < ws.length) : ws.drop i ≠ [] := by
  intro q
  have := congrArg List.length q
  rw [List.length_drop] at this
  simp at this
  omega
theorem skipT_stop {g : Nat} {l : List WD} (h : ¬ (l ≠ [] ∧ isS (gw l 0) [[44]] ∧ aloneG (l.drop 1))) : skipT g l = l := by
  cases g with
  | zero => rfl
  | succ g => rw [skipT, if_neg h]
theorem wcells_cell : ∀ (ws : List WD), (wcells ws).all V.isCell = true
  | [] => rfl
  | w :: l => by
    rw [show wcells (w :: l) = w.cells ++ wcells l from rfl, List.all_append, wcells_cell l]
    rfl
theorem sub_i (a b : Nat) (h : b ≤ a) (ha : a < 2 ^ 40) : IntKind.i64.wrap ((a : Int) - b) = ((a - b : Nat) : Int) := by
  rw [← Int.ofNat_sub h]
  unfold IntKind.wrap
  simp [IntKind.signed, IntKind.bits]
  omega

variable {S : Set0} (hS : StdD S)
include hS
set_option maxHeartbeats 2000000 in
theorem rows_spec (lv : V) (ws : List WD) (h : H) (ha : Wds h lv ws) (hwl : ws.length < 2 ^ 27) : Pure S.cfg 30 [lv] h fun v h' => Wx.Acc h.nx h' v (wcells (rowsF ws)) 43 3 := by
  refine into Tryz.f30 _ Tryz.func30 (hS.ownD _ (by decide)) rfl rfl (by kernel_rfl) (by kernel_rfl) ?_
  have a1 := ha.len
  simp +contextual (disch := first | (simp only [fr]; done) | omega | (simp only [Knx]; omega) | (apply Nat.le_antisymm <;> simp only [Knx] <;> omega) | fail) only [wpy, fD, reduceLE, reduceLT, reduceLeDiff, UInt8.reduceToNat, ↓reduceIte, reduceEqDiff, reduceAdd, reduceCtorEq, reduceToNat, Tryz.f30, a1]
  refine run_loop (fun k env h' => ∃ (i f : Nat) (l : V) (acc : List WD), k = ws.length - i ∧ i ≤ ws.length ∧ env 0 = lv ∧ env 3 = l ∧ env 4 = .int .i64 i ∧ acc.length ≤ i ∧ ws.length < i + f ∧ rowsF ws = acc ++ rowsT f (ws.drop i) ∧ Ext h h' ∧ Wx.Acc h.nx h' l (wcells acc) 43 3) ws.length ⟨0, ws.length + 1, .nilslice, [], ?_⟩ ?_
  · simp +contextual (disch := first | (simp only [fr]; done) | omega | (simp only [Knx]; omega) | (apply Nat.le_antisymm <;> simp only [Knx] <;> omega) | fail) only [wpy, fD, reduceLE, reduceLT, reduceLeDiff, UInt8.reduceToNat, ↓reduceIte, reduceEqDiff, reduceAdd, reduceCtorEq, reduceToNat]
    exact ⟨by simp, by omega, rfl, Ext.refl _, .inl ⟨rfl, rfl⟩⟩
  rintro k env h' ⟨i, f, l, acc, rfl, hi, e0, e3, e4, hacc, hf, hr, hx, hl⟩
  have hxn := hx.1
  have hc1 := hl.cell.1
  have hc2 := hl.cell.2
  obtain ⟨f, rfl⟩ : ∃ g, f = g + 1 := ⟨f - 1, by omega⟩
  by_cases hi2 : i < ws.length
  · rw [rowsT, if_neg (wdrop_ne hi2)] at hr
    have hah := ha.ext hx
    simp +contextual (disch := first | (simp only [fr]; done) | omega | (simp only [Knx]; omega) | (apply Nat.le_antisymm <;> simp only [Knx] <;> omega) | fail) only [wpy, fD, reduceLE, reduceLT, reduceLeDiff, UInt8.reduceToNat, ↓reduceIte, reduceEqDiff, reduceAdd, reduceCtorEq, reduceToNat, Tryz.f30, e0, e3, e4, hi2, a1]
    refine callF_pure (row_spec hS lv ws i h' hah hwl (by omega)) ?_
    rintro v h1 hx1 rfl
    have hX1 : Ext h h1 := hx.trans hx1
    have hle := rowG_le (ws.drop i)
    rw [List.length_drop] at hle
    obtain ⟨b, o, m, c, fl, rfl, hm, hb, hg, hw1, hw2, -⟩ := (ha.ext hX1).opened (by omega)
    have u0 := hw1 i hi2
    have w0 := hw2 i hi2
    by_cases hz : rowG (ws.drop i) = 0
    · rw [if_pos hz, gw_drop, Nat.add_zero, List.drop_drop] at hr
      simp +contextual (disch := first | (simp only [fr]; done) | omega | (simp only [Knx]; omega) | (apply Nat.le_antisymm <;> simp only [Knx] <;> omega) | fail) only [wpy, fD, reduceLE, reduceLT, reduceLeDiff, UInt8.reduceToNat, ↓reduceIte, reduceEqDiff, reduceAdd, reduceCtorEq, reduceToNat, Tryz.f30, e0, e3, e4, hi2, hz, hg, u0, w0]
      refine app_word (n0 := h.nx) (l := l) (acc := acc) (gw ws i) (by simp +contextual (disch := first | (simp only [fr]; done) | omega | (simp only [Knx]; omega) | (apply Nat.le_antisymm <;> simp only [Knx] <;> omega) | fail) only [wpy, fD, reduceLE, reduceLT, reduceLeDiff, UInt8.reduceToNat, ↓reduceIte, reduceEqDiff, reduceAdd, reduceCtorEq, reduceToNat]) (by simp +contextual (disch := first | (simp only [fr]; done) | omega | (simp only [Knx]; omega) | (apply Nat.le_antisymm <;> simp only [Knx] <;> omega) | fail) only [wpy, fD, reduceLE, reduceLT, reduceLeDiff, UInt8.reduceToNat, ↓reduceIte, reduceEqDiff, reduceAdd, reduceCtorEq, reduceToNat]) (hl.ext hx1) (by omega) (fun k hk => by rw [fresh_def]; exact .inl hk) hX1.1 ?_
      intro v h4 L ha4 hn4 hf4
      have hv1 := ha4.cell.1
      have hv2 := ha4.cell.2
      simp +contextual (disch := first | (simp only [fr]; done) | omega | (simp only [Knx]; omega) | (apply Nat.le_antisymm <;> simp only [Knx] <;> omega) | fail) only [wpy, fD, reduceLE, reduceLT, reduceLeDiff, UInt8.reduceToNat, ↓reduceIte, reduceEqDiff, reduceAdd, reduceCtorEq, reduceToNat, Tryz.f30, e0, e3, e4, hi2, hv1, hv2]
      exact ⟨_, by omega, i + 1, f, v, acc ++ [gw ws i], rfl, by omega, rfl, rfl, by rw [List.length_append]; simp; omega, by omega, by rw [hr]; simp, ext_of hX1 hn4 hf4, ha4⟩
    · generalize hn : rowG (ws.drop i) = n at *
      rw [if_neg hz, gw_drop, gw_drop, gw_drop, Nat.add_zero, List.drop_drop] at hr
      have hn3 : 3 ≤ n := by omega
      have k1 : i + 1 < ws.length := by omega
      have k2 : i + (n - 1) < ws.length := by omega
      have u1 := hw1 (i + 1) k1
      have w1 := hw2 (i + 1) k1
      have u2 := hw1 (i + (n - 1)) k2
      have w2 := hw2 (i + (n - 1)) k2
      have e9 : IntKind.i64.wrap (((i + n : Nat) : Int) - 1) = ((i + (n - 1) : Nat) : Int) := by
        have := sub_i (i + n) 1 (by omega) (by omega)
        rw [show i + n - 1 = i + (n - 1) by omega] at this
        exact this
      simp +contextual (disch := first | (simp only [fr]; done) | omega | (simp only [Knx]; omega) | (apply Nat.le_antisymm <;> simp only [Knx] <;> omega) | exact dok (by kernel_rfl)) only [draw_calm, draw_calmA, wpy, fD, reduceLE, reduceLT, reduceLeDiff, UInt8.reduceToNat, ↓reduceIte, reduceEqDiff, reduceAdd, reduceCtorEq, reduceToNat, Tryz.f30, e0, e3, e4, hi2, hz, hg, u0, w0, u1, w1, u2, w2, k1, k2, e9]
      refine append_new (sv := l) (n0 := h.nx) (by simp +contextual (disch := first | (simp only [fr]; done) | omega | (simp only [Knx]; omega) | (apply Nat.le_antisymm <;> simp only [Knx] <;> omega) | fail) only [wpy, fD, reduceLE, reduceLT, reduceLeDiff, UInt8.reduceToNat, ↓reduceIte, reduceEqDiff, reduceAdd, reduceCtorEq, reduceToNat]) ap30 ⟨.slice 43, by kernel_rfl, rfl⟩ (hl.ext hx1) (by simp +contextual (disch := first | (simp only [fr]; done) | omega | (simp only [Knx]; omega) | (apply Nat.le_antisymm <;> simp only [Knx] <;> omega) | fail) only [wpy, fD, reduceLE, reduceLT, reduceLeDiff, UInt8.reduceToNat, ↓reduceIte, reduceEqDiff, reduceAdd, reduceCtorEq, reduceToNat]) (n := 3) (by decide) rfl rfl ?_ (by decide) (fun k hk => by rw [fresh_def]; exact .inl hk) hX1.1 ?_
      · rw [wcells_len]
        show _ + 9 ≤ _
        omega
      intro v h4 L ha4 hn4 _ hf4 _
      have hv1 := ha4.cell.1
      have hv2 := ha4.cell.2
      simp +contextual (disch := first | (simp only [fr]; done) | omega | (simp only [Knx]; omega) | (apply Nat.le_antisymm <;> simp only [Knx] <;> omega) | fail) only [wpy, fD, reduceLE, reduceLT, reduceLeDiff, UInt8.reduceToNat, ↓reduceIte, reduceEqDiff, reduceAdd, reduceCtorEq, reduceToNat, Tryz.f30, e0, e3, e4, hi2, hv1, hv2]
      exact ⟨_, by omega, i + n, f, v, acc ++ [gw ws i, gw ws (i + 1), gw ws (i + (n - 1))], rfl, by omega, rfl, rfl, by rw [List.length_append]; simp; omega, by omega, by rw [hr]; simp, ext_of hX1 hn4 hf4, by
        rw [show wcells (acc ++ [gw ws i, gw ws (i + 1), gw ws (i + (n - 1))]) = wcells acc ++ ([gw ws i, gw ws (i + 1), gw ws (i + (n - 1))].flatMap WD.cells) by simp [wcells]]
        exact ha4⟩
  · rw [rowsT, List.drop_eq_nil_of_le (by omega), if_pos rfl, List.append_nil] at hr
    simp +contextual (disch := first | (simp only [fr]; done) | omega | (simp only [Knx]; omega) | (apply Nat.le_antisymm <;> simp only [Knx] <;> omega) | fail) only [wpy, fD, reduceLE, reduceLT, reduceLeDiff, UInt8.reduceToNat, ↓reduceIte, reduceEqDiff, reduceAdd, reduceCtorEq, reduceToNat, Tryz.f30, e0, e3, e4, hi2, a1]
    exact ⟨hx, by rw [hr]; exact hl⟩
set_option maxHeartbeats 2000000 in
theorem lists_spec (lv : V) (ws : List WD) (h : H) (ha : Wds h lv ws) (hwl : ws.length < 2 ^ 27) : Pure S.cfg 29 [lv] h fun v h' => Wx.Acc h.nx h' v (wcells (listsF ws)) 43 3 := by
  refine into Tryz.f29 _ Tryz.func29 (hS.ownD _ (by decide)) rfl rfl (by kernel_rfl) (by kernel_rfl) ?_
  have a1 := ha.len
  simp +contextual (disch := first | (simp only [fr]; done) | omega | (simp only [Knx]; omega) | (apply Nat.le_antisymm <;> simp only [Knx] <;> omega) | fail) only [wpy, fD, reduceLE, reduceLT, reduceLeDiff, UInt8.reduceToNat, ↓reduceIte, reduceEqDiff, reduceAdd, reduceCtorEq, reduceToNat, Tryz.f29, a1]
  refine run_loop (fun k env h' => ∃ (i f : Nat) (l : V) (acc : List WD), k = ws.length - i ∧ i ≤ ws.length ∧ env 0 = lv ∧ env 3 = l ∧ env 4 = .int .i64 i ∧ acc.length ≤ i ∧ ws.length < i + f ∧ listsF ws = acc ++ listsT f (ws.drop i) ∧ Ext h h' ∧ Wx.Acc h.nx h' l (wcells acc) 43 3) ws.length ⟨0, ws.length + 1, .nilslice, [], ?_⟩ ?_
  · simp +contextual (disch := first | (simp only [fr]; done) | omega | (simp only [Knx]; omega) | (apply Nat.le_antisymm <;> simp only [Knx] <;> omega) | fail) only [wpy, fD, reduceLE, reduceLT, reduceLeDiff, UInt8.reduceToNat, ↓reduceIte, reduceEqDiff, reduceAdd, reduceCtorEq, reduceToNat]
    exact ⟨by simp, by omega, rfl, Ext.refl _, .inl ⟨rfl, rfl⟩⟩
  rintro k env h' ⟨i, f, l, acc, rfl, hi, e0, e3, e4, hacc, hf, hr, hx, hl⟩
  have hxn := hx.1
  have hc1 := hl.cell.1
  have hc2 := hl.cell.2
  obtain ⟨f, rfl⟩ : ∃ g, f = g + 1 := ⟨f - 1, by omega⟩
  by_cases hi2 : i < ws.length
  · rw [listsT, if_neg (wdrop_ne hi2)] at hr
    have hah := ha.ext hx
    simp +contextual (disch := first | (simp only [fr]; done) | omega | (simp only [Knx]; omega) | (apply Nat.le_antisymm <;> simp only [Knx] <;> omega) | fail) only [wpy, fD, reduceLE, reduceLT, reduceLeDiff, UInt8.reduceToNat, ↓reduceIte, reduceEqDiff, reduceAdd, reduceCtorEq, reduceToNat, Tryz.f29, e0, e3, e4, hi2, a1]
    refine callF_pure (alone_spec hS lv ws i h' hah hwl (by omega)) ?_
    rintro v h1 hx1 rfl
    have hX1 : Ext h h1 := hx.trans hx1
    obtain ⟨b, o, m, c, fl, rfl, hm, hb, hg, hw1, hw2, hw3⟩ := (ha.ext hX1).opened (by omega)
    have u0 := hw1 i hi2
    have w0 := hw2 i hi2
    by_cases hz : aloneG (ws.drop i)
    · have h3 : i + 3 ≤ ws.length := Decidable.byContradiction fun q => by rw [aloneG_no q] at hz; exact hz
      rw [if_pos hz, List.drop_drop, List.length_drop] at hr
      simp +contextual (disch := first | (simp only [fr]; done) | omega | (simp only [Knx]; omega) | (apply Nat.le_antisymm <;> simp only [Knx] <;> omega) | fail) only [wpy, fD, reduceLE, reduceLT, reduceLeDiff, UInt8.reduceToNat, ↓reduceIte, reduceEqDiff, reduceAdd, reduceCtorEq, reduceToNat, Tryz.f29, e0, e3, e4, hi2, hz]
      refine slice_row (e := 43) (sz := 3) (b := b) (o := o) (n := ws.length) (m := m) (l := i) (hh := i + 3) (mm := m) (by kernel_rfl) sz43 (by simp +contextual (disch := first | (simp only [fr]; done) | omega | (simp only [Knx]; omega) | (apply Nat.le_antisymm <;> simp only [Knx] <;> omega) | fail) only [wpy, fD, reduceLE, reduceLT, reduceLeDiff, UInt8.reduceToNat, ↓reduceIte, reduceEqDiff, reduceAdd, reduceCtorEq, reduceToNat]) (by rw [hg]; rfl) (fun _ => rfl) (by simp +contextual (disch := first | (simp only [fr]; done) | omega | (simp only [Knx]; omega) | (apply Nat.le_antisymm <;> simp only [Knx] <;> omega) | fail) only [wpy, fD, reduceLE, reduceLT, reduceLeDiff, UInt8.reduceToNat, ↓reduceIte, reduceEqDiff, reduceAdd, reduceCtorEq, reduceToNat]; exact bounds_both (by omega) (by omega)) (by omega) ?_
      rw [show i + 3 - i = 3 by omega]
      have hnl : (wcells ((ws.drop i).take 3)).length = 3 * 3 := by rw [wcells_len, List.length_take, List.length_drop, Nat.min_eq_left (by omega)]
      simp +contextual (disch := first | (simp only [fr]; done) | omega | (simp only [Knx]; omega) | (apply Nat.le_antisymm <;> simp only [Knx] <;> omega) | fail) only [wpy, fD, reduceLE, reduceLT, reduceLeDiff, UInt8.reduceToNat, ↓reduceIte, reduceEqDiff, reduceAdd, reduceCtorEq, reduceToNat, Tryz.f29, e0, e3, e4, hi2, hz]
      refine append_accV (sv := l) (n0 := h.nx) (cells := wcells acc) (new := wcells ((ws.drop i).take 3)) (b2 := b) (o2 := o + i * 3) (n := 3) (m := m - i) (by simp +contextual (disch := first | (simp only [fr]; done) | omega | (simp only [Knx]; omega) | (apply Nat.le_antisymm <;> simp only [Knx] <;> omega) | fail) only [wpy, fD, reduceLE, reduceLT, reduceLeDiff, UInt8.reduceToNat, ↓reduceIte, reduceEqDiff, reduceAdd, reduceCtorEq, reduceToNat]) ap30 ⟨.slice 43, by kernel_rfl, rfl⟩ (hl.ext hx1) (by simp +contextual (disch := first | (simp only [fr]; done) | omega | (simp only [Knx]; omega) | (apply Nat.le_antisymm <;> simp only [Knx] <;> omega) | fail) only [wpy, fD, reduceLE, reduceLT, reduceLeDiff, UInt8.reduceToNat, ↓reduceIte, reduceEqDiff, reduceAdd, reduceCtorEq, reduceToNat]) (by decide) ?_ hnl ?_ ?_ (by decide) (fun k hk => by rw [fresh_def]; exact .inl hk) ?_ hX1.1
      · rw [hg]
        unfold rdC
        have hb9 : Nat.ble (o + i * 3 + 3 * 3) c.length = true := ble_iff.2 (by have := hw1 (i + 2) (by omega); omega)
        simp only [hb9, cond_true]
        exact congrArg some (row_sub (k := 3) hw3 h3)
      · exact wcells_cell _
      · rw [wcells_len, hnl]
        omega
      intro v h4 L ha4 hst hL
      have hX4 : Ext h h4 := StaysBut.ext (n0 := 0) hX1 hst (hl.ext hx1)
      rw [← wcells_app] at ha4
      have hv1 := ha4.cell.1
      have hv2 := ha4.cell.2
      simp +contextual (disch := first | (simp only [fr]; done) | omega | (simp only [Knx]; omega) | (apply Nat.le_antisymm <;> simp only [Knx] <;> omega) | fail) only [wpy, fD, reduceLE, reduceLT, reduceLeDiff, UInt8.reduceToNat, ↓reduceIte, reduceEqDiff, reduceAdd, reduceCtorEq, reduceToNat, Tryz.f29, e0, e3, e4, hi2, hv1, hv2]
      refine run_loop (fun k env2 h2 => ∃ (j g : Nat), k = ws.length + 4 - j ∧ i + 3 ≤ j ∧ j ≤ ws.length ∧ env2 0 = .slice b o ws.length m ∧ env2 3 = v ∧ env2 4 = .int .i64 j ∧ ws.length ≤ j + g ∧ skipT (ws.length - i) (ws.drop (i + 3)) = skipT g (ws.drop j) ∧ Ext h h2 ∧ Wx.Acc h.nx h2 v (wcells (acc ++ (ws.drop i).take 3)) 43 3) (ws.length + 4 - (i + 3)) ⟨i + 3, ws.length - i, ?_⟩ ?_
      · simp +contextual (disch := first | (simp only [fr]; done) | omega | (simp only [Knx]; omega) | (apply Nat.le_antisymm <;> simp only [Knx] <;> omega) | fail) only [wpy, fD, reduceLE, reduceLT, reduceLeDiff, UInt8.reduceToNat, ↓reduceIte, reduceEqDiff, reduceAdd, reduceCtorEq, reduceToNat, e0]
        exact ⟨by omega, by omega, hX4, ha4⟩
      rintro k env2 h2 ⟨j, g, rfl, hj3, hjl, f0, f3, f4, hg2, hsk, hx2, hl2⟩
      have hb1 : b < h.nx := by
        rcases ha with ⟨q, _⟩ | ⟨b', _, _, _, _, q, _, q2, _⟩
        · cases q
        · cases q; exact q2
      have hgh : h2.get b = some (.cells c 43 fl) := by rw [hx2.2 b hb1, ← hX1.2 b hb1]; exact hg
      have hfin : ∀ h5, Ext h2 h5 → skipT g (ws.drop j) = ws.drop j → ∃ m', m' < ws.length - i ∧ ∃ (i' f' : Nat) (l : V) (acc' : List WD), m' = ws.length - i' ∧ i' ≤ ws.length ∧ v = l ∧ j = i' ∧ acc'.length ≤ i' ∧ ws.length < i' + f' ∧ listsF ws = acc' ++ listsT f' (ws.drop i') ∧ Ext h h5 ∧ Wx.Acc h.nx h5 l (wcells acc') 43 3 := fun h5 hx5 hq => ⟨_, by omega, j, f, v, acc ++ (ws.drop i).take 3, rfl, hjl, rfl, rfl, by rw [List.length_append, List.length_take, List.length_drop]; omega, by omega, by rw [hr, hsk, hq, List.append_assoc], hx2.trans hx5, hl2.ext hx5⟩
      by_cases k0 : j < ws.length
      · have u0 := hw1 j k0
        have w0 := hw2 j k0
        simp +contextual (disch := first | (simp only [fr]; done) | omega | (simp only [Knx]; omega) | (apply Nat.le_antisymm <;> simp only [Knx] <;> omega) | fail) only [wpy, fD, reduceLE, reduceLT, reduceLeDiff, UInt8.reduceToNat, ↓reduceIte, reduceEqDiff, reduceAdd, reduceCtorEq, reduceToNat, Tryz.f29, f0, f3, f4, k0, hgh, u0, w0]
        refine callF_pure (dsign_new hS (gw ws j) [[44]] 1 _ 9 false _ rfl rfl (by decide)) ?_
        rintro v6 h6 hx6 rfl
        have hX6 : Ext h2 h6 := ((Ext.refl h2).push _).trans hx6
        by_cases c0 : isS (gw ws j) [[44]]
        · simp +contextual (disch := first | (simp only [fr]; done) | omega | (simp only [Knx]; omega) | (apply Nat.le_antisymm <;> simp only [Knx] <;> omega) | fail) only [wpy, fD, reduceLE, reduceLT, reduceLeDiff, UInt8.reduceToNat, ↓reduceIte, reduceEqDiff, reduceAdd, reduceCtorEq, reduceToNat, Tryz.f29, f0, f3, f4, k0, c0]
          refine callF_pure (alone_spec hS _ ws (j + 1) h6 (ha.ext (hx2.trans hX6)) hwl (by omega)) ?_
          rintro v7 h7 hx7 rfl
          have hX7 : Ext h2 h7 := hX6.trans hx7
          by_cases c1 : aloneG (ws.drop (j + 1))
          · have hj4 : j + 1 + 3 ≤ ws.length := Decidable.byContradiction fun q => by rw [aloneG_no q] at c1; exact c1
            obtain ⟨g, rfl⟩ : ∃ g', g = g' + 1 := ⟨g - 1, by omega⟩
            rw [skipT, if_pos ⟨wdrop_ne k0, by rw [gw_drop, Nat.add_zero]; exact c0, by rw [List.drop_drop]; exact c1⟩, List.drop_drop] at hsk
            simp +contextual (disch := first | (simp only [fr]; done) | omega | (simp only [Knx]; omega) | (apply Nat.le_antisymm <;> simp only [Knx] <;> omega) | fail) only [wpy, fD, reduceLE, reduceLT, reduceLeDiff, UInt8.reduceToNat, ↓reduceIte, reduceEqDiff, reduceAdd, reduceCtorEq, reduceToNat, Tryz.f29, f0, f3, f4, k0, c0, c1]
            exact ⟨_, by omega, j + 4, g, rfl, by omega, by omega, rfl, by omega, hsk, hx2.trans hX7, hl2.ext hX7⟩
          · simp +contextual (disch := first | (simp only [fr]; done) | omega | (simp only [Knx]; omega) | (apply Nat.le_antisymm <;> simp only [Knx] <;> omega) | fail) only [wpy, fD, reduceLE, reduceLT, reduceLeDiff, UInt8.reduceToNat, ↓reduceIte, reduceEqDiff, reduceAdd, reduceCtorEq, reduceToNat, Tryz.f29, f0, f3, f4, k0, c0, c1]
            exact hfin _ hX7 (skipT_stop fun q => c1 (by have := q.2.2; rw [List.drop_drop] at this; exact this))
        · simp +contextual (disch := first | (simp only [fr]; done) | omega | (simp only [Knx]; omega) | (apply Nat.le_antisymm <;> simp only [Knx] <;> omega) | fail) only [wpy, fD, reduceLE, reduceLT, reduceLeDiff, UInt8.reduceToNat, ↓reduceIte, reduceEqDiff, reduceAdd, reduceCtorEq, reduceToNat, Tryz.f29, f0, f3, f4, k0, c0]
          exact hfin _ hX6 (skipT_stop fun q => c0 (by have := q.2.1; rw [gw_drop, Nat.add_zero] at this; exact this))
      · simp +contextual (disch := first | (simp only [fr]; done) | omega | (simp only [Knx]; omega) | (apply Nat.le_antisymm <;> simp only [Knx] <;> omega) | fail) only [wpy, fD, reduceLE, reduceLT, reduceLeDiff, UInt8.reduceToNat, ↓reduceIte, reduceEqDiff, reduceAdd, reduceCtorEq, reduceToNat, Tryz.f29, f0, f3, f4, k0]
        exact hfin _ (Ext.refl _) (skipT_stop fun q => q.1 (List.drop_eq_nil_of_le (by omega)))
    · rw [if_neg hz, gw_drop, Nat.add_zero, List.drop_drop] at hr
      simp +contextual (disch := first | (simp only [fr]; done) | omega | (simp only [Knx]; omega) | (apply Nat.le_antisymm <;> simp only [Knx] <;> omega) | fail) only [wpy, fD, reduceLE, reduceLT, reduceLeDiff, UInt8.reduceToNat, ↓reduceIte, reduceEqDiff, reduceAdd, reduceCtorEq, reduceToNat, Tryz.f29, e0, e3, e4, hi2, hz, hg, u0, w0]
      refine app_word (n0 := h.nx) (l := l) (acc := acc) (gw ws i) (by simp +contextual (disch := first | (simp only [fr]; done) | omega | (simp only [Knx]; omega) | (apply Nat.le_antisymm <;> simp only [Knx] <;> omega) | fail) only [wpy, fD, reduceLE, reduceLT, reduceLeDiff, UInt8.reduceToNat, ↓reduceIte, reduceEqDiff, reduceAdd, reduceCtorEq, reduceToNat]) (by simp +contextual (disch := first | (simp only [fr]; done) | omega | (simp only [Knx]; omega) | (apply Nat.le_antisymm <;> simp only [Knx] <;> omega) | fail) only [wpy, fD, reduceLE, reduceLT, reduceLeDiff, UInt8.reduceToNat, ↓reduceIte, reduceEqDiff, reduceAdd, reduceCtorEq, reduceToNat]) (hl.ext hx1) (by omega) (fun k hk => by rw [fresh_def]; exact .inl hk) hX1.1 ?_
      intro v h4 L ha4 hn4 hf4
      have hv1 := ha4.cell.1
      have hv2 := ha4.cell.2
      simp +contextual (disch := first | (simp only [fr]; done) | omega | (simp only [Knx]; omega) | (apply Nat.le_antisymm <;> simp only [Knx] <;> omega) | fail) only [wpy, fD, reduceLE, reduceLT, reduceLeDiff, UInt8.reduceToNat, ↓reduceIte, reduceEqDiff, reduceAdd, reduceCtorEq, reduceToNat, Tryz.f29, e0, e3, e4, hi2, hv1, hv2]
      exact ⟨_, by omega, i + 1, f, v, acc ++ [gw ws i], rfl, by omega, rfl, rfl, by rw [List.length_append]; simp; omega, by omega, by rw [hr]; simp, ext_of hX1 hn4 hf4, ha4⟩
  · rw [listsT, List.drop_eq_nil_of_le (by omega), if_pos rfl, List.append_nil] at hr
    simp +contextual (disch := first | (simp only [fr]; done) | omega | (simp only [Knx]; omega) | (apply Nat.le_antisymm <;> simp only [Knx] <;> omega) | fail) only [wpy, fD, reduceLE, reduceLT, reduceLeDiff, UInt8.reduceToNat, ↓reduceIte, reduceEqDiff, reduceAdd, reduceCtorEq, reduceToNat, Tryz.f29, e0, e3, e4, hi2, a1]
    exact ⟨hx, by rw [hr]; exact hl⟩
def trimN (ws : List WD) : Nat → Nat
  | 0 => 0
  | n + 1 => if isS (gw ws n) [[59]] then trimN ws n else n + 1
def wordsF (ws : List WD) : List WD := (listsF (rowsF (sigF (valF ws)))).take (trimN (listsF (rowsF (sigF (valF ws)))) (listsF (rowsF (sigF (valF ws)))).length)
omit hS in
theorem rowsT_len : ∀ (f : Nat) (l : List WD), (rowsT f l).length ≤ l.length
  | 0, l => Nat.zero_le _
  | f + 1, l => by
    have hle := rowG_le l
    rw [rowsT]
    split
    · exact Nat.zero_le _
    · rename_i hne
      have hp : 0 < l.length := List.length_pos_iff.2 hne
      split
      · have := rowsT_len f (l.drop 1)
        rw [List.length_drop] at this
        rw [List.length_cons]
        omega
      · have := rowsT_len f (l.drop (rowG l))
        rw [List.length_drop] at this
        simp only [List.length_cons]
        omega
omit hS in
theorem skipT_len : ∀ (g : Nat) (l : List WD), (skipT g l).length ≤ l.length
  | 0, l => Nat.le_refl _
  | g + 1, l => by
    rw [skipT]
    split
    · have := skipT_len g (l.drop 4)
      rw [List.length_drop] at this
      omega
    · exact Nat.le_refl _
omit hS in
theorem listsT_len : ∀ (f : Nat) (l : List WD), (listsT f l).length ≤ l.length
  | 0, l => Nat.zero_le _
  | f + 1, l => by
    rw [listsT]
    split
    · exact Nat.zero_le _
    · rename_i hne
      have hp : 0 < l.length := List.length_pos_iff.2 hne
      split
      · have h1 := listsT_len f (skipT l.length (l.drop 3))
        have h2 := skipT_len l.length (l.drop 3)
        rw [List.length_drop] at h2
        rw [List.length_append, List.length_take]
        omega
      · have := listsT_len f (l.drop 1)
        rw [List.length_drop] at this
        rw [List.length_cons]
        omega
omit hS in
theorem sigF_len (ws : List WD) : (sigF ws).length ≤ ws.length := sigN_len ws _
set_option maxHeartbeats 2000000 in
theorem words_spec (lv : V) (ws : List WD) (h : H) (ha : Wds h lv ws) (hwl : ws.length < 2 ^ 27) : Pure S.cfg 12 [lv] h fun v h' => Wds h' v (wordsF ws) := by
  refine into Tryz.f12 _ Tryz.func12 (hS.ownD _ (by decide)) rfl rfl (by kernel_rfl) (by kernel_rfl) ?_
  simp +contextual (disch := first | (simp only [fr]; done) | omega | (simp only [Knx]; omega) | (apply Nat.le_antisymm <;> simp only [Knx] <;> omega) | fail) only [wpy, fD, reduceLE, reduceLT, reduceLeDiff, UInt8.reduceToNat, ↓reduceIte, reduceEqDiff, reduceAdd, reduceCtorEq, reduceToNat, Tryz.f12]
  refine callF_pure (values_spec hS lv ws h ha hwl) ?_
  intro v1 h1 hx1 ha1
  have l1 := valF_len ws
  have i1 := ha1.cell
  simp +contextual (disch := first | (simp only [fr]; done) | omega | (simp only [Knx]; omega) | (apply Nat.le_antisymm <;> simp only [Knx] <;> omega) | fail) only [wpy, fD, reduceLE, reduceLT, reduceLeDiff, UInt8.reduceToNat, ↓reduceIte, reduceEqDiff, reduceAdd, reduceCtorEq, reduceToNat, Tryz.f12, i1.1, i1.2]
  refine callF_pure (signed_spec hS v1 _ h1 (.of_acc ha1) (by omega)) ?_
  intro v2 h2 hx2 ha2
  have l2 := sigF_len (valF ws)
  have i2 := ha2.cell
  simp +contextual (disch := first | (simp only [fr]; done) | omega | (simp only [Knx]; omega) | (apply Nat.le_antisymm <;> simp only [Knx] <;> omega) | fail) only [wpy, fD, reduceLE, reduceLT, reduceLeDiff, UInt8.reduceToNat, ↓reduceIte, reduceEqDiff, reduceAdd, reduceCtorEq, reduceToNat, Tryz.f12, i2.1, i2.2]
  refine callF_pure (rows_spec hS v2 _ h2 (.of_acc ha2) (by omega)) ?_
  intro v3 h3 hx3 ha3
  have l3 : (rowsF (sigF (valF ws))).length ≤ _ := rowsT_len _ _
  have i3 := ha3.cell
  simp +contextual (disch := first | (simp only [fr]; done) | omega | (simp only [Knx]; omega) | (apply Nat.le_antisymm <;> simp only [Knx] <;> omega) | fail) only [wpy, fD, reduceLE, reduceLT, reduceLeDiff, UInt8.reduceToNat, ↓reduceIte, reduceEqDiff, reduceAdd, reduceCtorEq, reduceToNat, Tryz.f12, i3.1, i3.2]
  refine callF_pure (lists_spec hS v3 _ h3 (.of_acc ha3) (by omega)) ?_
  intro v4 h4 hx4 ha4
  have l4 : (listsF (rowsF (sigF (valF ws)))).length ≤ _ := listsT_len _ _
  have i4 := ha4.cell
  have hX : Ext h h4 := ((hx1.trans hx2).trans hx3).trans hx4
  have hw4 : Wds h4 v4 (listsF (rowsF (sigF (valF ws)))) := .of_acc ha4
  rw [wordsF]
  generalize listsF (rowsF (sigF (valF ws))) = us at *
  simp +contextual (disch := first | (simp only [fr]; done) | omega | (simp only [Knx]; omega) | (apply Nat.le_antisymm <;> simp only [Knx] <;> omega) | fail) only [wpy, fD, reduceLE, reduceLT, reduceLeDiff, UInt8.reduceToNat, ↓reduceIte, reduceEqDiff, reduceAdd, reduceCtorEq, reduceToNat, Tryz.f12, i4.1, i4.2]
  refine run_loop (fun k env h' => ∃ (n : Nat) (l : V), k = n ∧ n ≤ us.length ∧ env 3 = l ∧ Ext h h' ∧ Wds h' l (us.take n) ∧ trimN us us.length = trimN us n) us.length ⟨us.length, v4, ?_⟩ ?_
  · simp +contextual (disch := first | (simp only [fr]; done) | omega | (simp only [Knx]; omega) | (apply Nat.le_antisymm <;> simp only [Knx] <;> omega) | fail) only [wpy, fD, reduceLE, reduceLT, reduceLeDiff, UInt8.reduceToNat, ↓reduceIte, reduceEqDiff, reduceAdd, reduceCtorEq, reduceToNat]
    exact ⟨hX, by rw [List.take_length]; exact hw4⟩
  rintro k env h' ⟨n, l, hkn, hn, e3, hx, hl, ht⟩
  have a1 := hl.len
  have hc := hl.cell
  have hlen : (us.take n).length = n := by rw [List.length_take]; omega
  rw [hlen] at a1
  by_cases h0 : 0 < n
  · obtain ⟨n, rfl⟩ : ∃ q, n = q + 1 := ⟨n - 1, by omega⟩
    obtain ⟨b, o, m, c, fl, rfl, hm, hb, hg, hw1, hw2, hw3⟩ := hl.opened (by omega)
    have hgt : gw (us.take (n + 1)) n = gw us n := by
      unfold gw
      rw [List.getD_eq_getElem?_getD, List.getD_eq_getElem?_getD, List.getElem?_take, if_pos (by omega)]
    have u0 := hw1 n (by omega)
    have w0 := hw2 n (by omega)
    rw [hgt] at w0
    rw [hlen] at hm hw3
    rw [trimN] at ht
    have p0 : 0 < n + 1 := Nat.succ_pos n
    have p1 : n < n + 1 := Nat.lt_succ_self n
    simp +contextual (disch := first | (simp only [fr]; done) | omega | (simp only [Knx]; omega) | (apply Nat.le_antisymm <;> simp only [Knx] <;> omega) | fail) only [wpy, fD, reduceLE, reduceLT, reduceLeDiff, UInt8.reduceToNat, ↓reduceIte, reduceEqDiff, reduceAdd, reduceCtorEq, reduceToNat, Tryz.f12, e3, a1, hlen, hg, u0, w0, Nat.add_sub_cancel, p0, p1]
    refine callF_pure (dsign_new hS (gw us n) [[59]] 1 _ 9 false _ rfl rfl (by decide)) ?_
    rintro v6 h6 hx6 rfl
    have hX6 : Ext h' h6 := ((Ext.refl h').push _).trans hx6
    have hg6 : h6.get b = some (.cells c 43 fl) := by rw [hX6.2 b hb]; exact hg
    by_cases c0 : isS (gw us n) [[59]]
    · rw [if_pos c0] at ht
      simp +contextual (disch := first | (simp only [fr]; done) | omega | (simp only [Knx]; omega) | (apply Nat.le_antisymm <;> simp only [Knx] <;> omega) | fail) only [wpy, fD, reduceLE, reduceLT, reduceLeDiff, UInt8.reduceToNat, ↓reduceIte, reduceEqDiff, reduceAdd, reduceCtorEq, reduceToNat, Tryz.f12, e3, a1, hlen, Nat.add_sub_cancel, p0, p1, c0]
      refine slice_row (e := 43) (sz := 3) (b := b) (o := o) (n := n + 1) (m := m) (l := 0) (hh := n) (mm := m) (by kernel_rfl) sz43 (by simp +contextual (disch := first | (simp only [fr]; done) | omega | (simp only [Knx]; omega) | (apply Nat.le_antisymm <;> simp only [Knx] <;> omega) | fail) only [wpy, fD, reduceLE, reduceLT, reduceLeDiff, UInt8.reduceToNat, ↓reduceIte, reduceEqDiff, reduceAdd, reduceCtorEq, reduceToNat]) (by rw [hg6]; rfl) (fun _ => rfl) (by simp +contextual (disch := first | (simp only [fr]; done) | omega | (simp only [Knx]; omega) | (apply Nat.le_antisymm <;> simp only [Knx] <;> omega) | fail) only [wpy, fD, reduceLE, reduceLT, reduceLeDiff, UInt8.reduceToNat, ↓reduceIte, reduceEqDiff, reduceAdd, reduceCtorEq, reduceToNat]; exact bounds_hi (by omega)) (by omega) ?_
      rw [Nat.zero_mul, Nat.add_zero, Nat.sub_zero, Nat.sub_zero]
      simp +contextual (disch := first | (simp only [fr]; done) | omega | (simp only [Knx]; omega) | (apply Nat.le_antisymm <;> simp only [Knx] <;> omega) | fail) only [wpy, fD, reduceLE, reduceLT, reduceLeDiff, UInt8.reduceToNat, ↓reduceIte, reduceEqDiff, reduceAdd, reduceCtorEq, reduceToNat, Tryz.f12, e3]
      refine ⟨_, ?_, n, _, rfl, by omega, rfl, hx.trans hX6, ?_, ht⟩
      · omega
      · have hln : (us.take n).length = n := by rw [List.length_take]; omega
        have hq := row_sub (i := 0) (k := n) (ws := us.take (n + 1)) (c := c) (o := o) (by rw [hlen]; exact hw3) (by omega)
        rw [Nat.zero_mul, Nat.add_zero, List.drop_zero, List.take_take, Nat.min_eq_left (by omega)] at hq
        refine .inr ⟨b, o, m, c, fl, ?_, by omega, Nat.lt_of_lt_of_le hb hX6.1, hg6, ?_, by rw [hln]; exact hq⟩
        · rw [hln]
        · have := hw1 n (by omega)
          rw [hln]
          omega
    · rw [if_neg c0] at ht
      simp +contextual (disch := first | (simp only [fr]; done) | omega | (simp only [Knx]; omega) | (apply Nat.le_antisymm <;> simp only [Knx] <;> omega) | fail) only [wpy, fD, reduceLE, reduceLT, reduceLeDiff, UInt8.reduceToNat, ↓reduceIte, reduceEqDiff, reduceAdd, reduceCtorEq, reduceToNat, Tryz.f12, e3, a1, hlen, Nat.add_sub_cancel, p0, p1, c0]
      rw [hlen] at hl
      exact ⟨hx.trans hX6, by rw [ht]; exact hl.ext hX6⟩
  · obtain rfl : n = 0 := by omega
    simp +contextual (disch := first | (simp only [fr]; done) | omega | (simp only [Knx]; omega) | (apply Nat.le_antisymm <;> simp only [Knx] <;> omega) | fail) only [wpy, fD, reduceLE, reduceLT, reduceLeDiff, UInt8.reduceToNat, ↓reduceIte, reduceEqDiff, reduceAdd, reduceCtorEq, reduceToNat, Tryz.f12, e3, a1, Nat.lt_irrefl]
    exact ⟨hx, by rw [ht]; exact hl⟩
end
end Go.Proofs.YtkibhdbmamfjcaaGreatDoor
set_option maxHeartbeats 1000000
set_option linter.unusedSimpArgs false
set_option linter.unusedVariables false
set_option linter.unusedSectionVars false
set_option linter.defProp false
set_option maxRecDepth 10000
namespace Go.Proofs.YtkibhdbmamfjcaaGreatDoor
open Int (reduceLE reduceLT reduceToNat)
open Nat (reduceLeDiff reduceEqDiff reduceAdd)
open Go.Proofs Go.Lx Go.Wx Go.IntWalk
noncomputable section
def Gw (B : Nat) (w : WD) : Prop := Bytes w.text ∧ w.text.length ≤ B
def Gd (B N : Nat) (ws : List WD) : Prop := ws.length ≤ N ∧ ∀ w ∈ ws, Gw B w
theorem gw_snoc {B : Nat} {acc : List WD} {w : WD} (h : ∀ x ∈ acc, Gw B x) (hw : Gw B w) : ∀ x ∈ acc ++ [w], Gw B x := by
  intro x hx
  rw [List.mem_append, List.mem_singleton] at hx
  rcases hx with hx | rfl
  · exact h x hx
  · exact hw
theorem allR_good {s : List Nat} (hb : Bytes s) : ∀ (f p : Nat) (acc ws : List WD), p ≤ s.length → acc.length ≤ p → (∀ w ∈ acc, Gw s.length w) → allR s f p acc = .inl ws → Gd s.length s.length ws
  | 0, p, acc, ws, hp, ha, hg, h => by
    unfold allR at h
    cases h
    exact ⟨by omega, hg⟩
  | f + 1, p, acc, ws, hp, ha, hg, h => by
    unfold allR at h
    split at h
    · rename_i hlt
      have hd0 : s.drop p ≠ [] := fun q => by have := congrArg List.length q; simp at this; omega
      have hple := passF_le hd0
      rw [List.length_drop] at hple
      split at h
      · cases h
      · split at h
        · exact allR_good hb f _ acc ws (by omega) (by omega) hg h
        · split at h
          · cases h
          · rename_i he
            have hok := wordD_ok hd0 (hb.drop p)
            have hpos := wordD_pos (s := s.drop p) (by omega)
            have h1 := hok.2.1
            have h2 := hok.2.2
            rw [List.length_drop] at h1 h2
            refine allR_good hb f _ _ ws (by omega) (by rw [List.length_append]; simp; omega) (gw_snoc hg ⟨hok.1, by show (wordD (s.drop p)).text.length ≤ _; omega⟩) h
    · cases h
      exact ⟨by omega, hg⟩
theorem allF_good {s : List Nat} {ws : List WD} (hb : Bytes s) (h : allF s = .inl ws) : Gd s.length s.length ws := allR_good hb _ 0 [] ws (Nat.zero_le _) (Nat.zero_le _) (fun w hw => by cases hw) h

section
variable {P : WD → Prop} (h0 : ∀ k a, P ⟨k, [], a⟩)
include h0
theorem gw_all {l : List WD} (h : ∀ w ∈ l, P w) (i : Nat) : P (gw l i) := by
  by_cases hi : i < l.length
  · rw [gw_eq hi]; exact h _ (List.getElem_mem hi)
  · unfold gw
    rw [List.getD_eq_getElem?_getD, List.getElem?_eq_none (by omega)]
    exact h0 _ _
theorem valF_all {l : List WD} (h : ∀ w ∈ l, P w) : ∀ w ∈ valF l, P w := by
  intro w hw
  obtain ⟨x, hx, hq⟩ := List.mem_flatMap.1 hw
  unfold val1 at hq
  split at hq
  · cases hq
  · split at hq
    · rw [List.mem_singleton] at hq; subst hq; exact h0 _ _
    · rw [List.mem_singleton] at hq; subst hq; exact h _ hx
theorem sigF_all {l : List WD} (h : ∀ w ∈ l, P w) : ∀ w ∈ sigF l, P w := by
  intro w hw
  obtain ⟨x, hx, hq⟩ := List.mem_flatMap.1 hw
  unfold sg1 at hq
  split at hq
  · cases hq
  · rw [List.mem_singleton] at hq; subst hq; exact gw_all h0 h _
theorem rowsT_all : ∀ (f : Nat) (l : List WD), (∀ w ∈ l, P w) → ∀ w ∈ rowsT f l, P w
  | 0, l, h => fun w hw => by cases hw
  | f + 1, l, h => fun w hw => by
    have hd : ∀ n, ∀ w ∈ l.drop n, P w := fun n w hw => h w (List.mem_of_mem_drop hw)
    rw [rowsT] at hw
    split at hw
    · cases hw
    · split at hw
      · rcases List.mem_cons.1 hw with rfl | hw
        · exact gw_all h0 h _
        · exact rowsT_all f _ (hd _) w hw
      · rcases List.mem_cons.1 hw with rfl | hw
        · exact gw_all h0 h _
        rcases List.mem_cons.1 hw with rfl | hw
        · exact gw_all h0 h _
        rcases List.mem_cons.1 hw with rfl | hw
        · exact gw_all h0 h _
        · exact rowsT_all f _ (hd _) w hw
omit h0 in
theorem skipT_all : ∀ (g : Nat) (l : List WD), (∀ w ∈ l, P w) → ∀ w ∈ skipT g l, P w
  | 0, l, h => h
  | g + 1, l, h => by
    rw [skipT]
    split
    · exact skipT_all g _ fun w hw => h w (List.mem_of_mem_drop hw)
    · exact h
theorem listsT_all : ∀ (f : Nat) (l : List WD), (∀ w ∈ l, P w) → ∀ w ∈ listsT f l, P w
  | 0, l, h => fun w hw => by cases hw
  | f + 1, l, h => fun w hw => by
    have hd : ∀ n, ∀ w ∈ l.drop n, P w := fun n w hw => h w (List.mem_of_mem_drop hw)
    rw [listsT] at hw
    split at hw
    · cases hw
    · split at hw
      · rcases List.mem_append.1 hw with hw | hw
        · exact h w (List.mem_of_mem_take hw)
        · exact listsT_all f _ (skipT_all _ _ (hd _)) w hw
      · rcases List.mem_cons.1 hw with rfl | hw
        · exact gw_all h0 h _
        · exact listsT_all f _ (hd _) w hw
theorem wordsF_all {l : List WD} (h : ∀ w ∈ l, P w) : ∀ w ∈ wordsF l, P w := by
  intro w hw
  exact listsT_all h0 _ _ (rowsT_all h0 _ _ (sigF_all h0 (valF_all h0 h))) w (List.mem_of_mem_take hw)
end
theorem wordsF_len (ws : List WD) : (wordsF ws).length ≤ ws.length := by
  have l1 := valF_len ws
  have l2 := sigF_len (valF ws)
  have l3 : (rowsF (sigF (valF ws))).length ≤ _ := rowsT_len _ _
  have l4 : (listsF (rowsF (sigF (valF ws)))).length ≤ _ := listsT_len _ _
  rw [wordsF, List.length_take]
  omega
theorem wordsF_good {B N : Nat} {ws : List WD} (h : Gd B N ws) : Gd B N (wordsF ws) := ⟨Nat.le_trans (wordsF_len ws) h.1, wordsF_all (P := Gw B) (fun k a => ⟨(by intro b hb; cases hb), Nat.zero_le _⟩) h.2⟩
theorem allR_err {s : List Nat} : ∀ (f p : Nat) (acc : List WD) (e q : Nat), allR s f p acc = .inr (e, q) → e ≠ 0
  | 0, p, acc, e, q, h => by cases h
  | f + 1, p, acc, e, q, h => by
    unfold allR at h
    split at h
    · split at h
      · rename_i h1; cases h; exact h1
      · split at h
        · exact allR_err f _ acc e q h
        · split at h
          · rename_i h1; cases h; exact h1
          · exact allR_err f _ _ e q h
    · cases h
structure TF where
  t : List Nat
  e : Int
  p : Int
def TF.v (x : TF) : V := .tuple [.str x.t, .agg [.int .i64 x.e, .int .i64 x.p]]
theorem bytes_app {a b : List Nat} (ha : Bytes a) (hb : Bytes b) : Bytes (a ++ b) := by
  intro x hx
  rw [List.mem_append] at hx
  rcases hx with hx | hx
  · exact ha x hx
  · exact hb x hx
theorem bytes_repl (a b c : List Nat) : Bytes (replF a b c) := toN_bytes _
theorem bytes_join (ts : List (List Nat)) (sep : List Nat) : Bytes (joinF ts sep) := toN_bytes _
def tickF (s : List Nat) : List Nat := [96] ++ replF s [96] [96, 96] ++ [96]
def quoteF (s : List Nat) : List Nat := [39] ++ replF (replF s [92] [92, 92]) [39] [39, 39] ++ [39]
theorem tickF_len (s : List Nat) : (tickF s).length ≤ 3 * s.length + 4 := by
  have := replF_len s [96] [96, 96]
  simp only [tickF, List.length_append, List.length_cons, List.length_nil] at this ⊢
  omega
theorem quoteF_len (s : List Nat) : (quoteF s).length ≤ 9 * s.length + 16 := by
  have h1 := replF_len s [92] [92, 92]
  have h2 := replF_len (replF s [92] [92, 92]) [39] [39, 39]
  simp only [quoteF, List.length_append, List.length_cons, List.length_nil] at h1 h2 ⊢
  omega
theorem bytes_lit {l : List Nat} (h : (l.all fun b => Nat.blt b 256) = true) : Bytes l := fun b hb => blt_iff.1 (List.all_eq_true.1 h b hb)
theorem bytes_tick (s : List Nat) : Bytes (tickF s) := bytes_app (bytes_app (bytes_lit rfl) (bytes_repl _ _ _)) (bytes_lit rfl)
theorem bytes_quote (s : List Nat) : Bytes (quoteF s) := bytes_app (bytes_app (bytes_lit rfl) (bytes_repl _ _ _)) (bytes_lit rfl)
theorem nice_joinM (vs : List V) : Nice (joinM vs) := by
  unfold joinM
  repeat' (first | exact Nice.ret _ | exact Nice.err _ | exact Nice.ld _ _ _ | refine Nice.cond ?_ ?_ | refine Nice.bnd ?_ (fun _ => ?_) | split)
theorem famTs_of : ∀ (ts : List (List Nat)), famTs (ts.map V.str) = some ts
  | [] => rfl
  | t :: ts => by
    show (famTs (ts.map V.str)).map (t :: ·) = _
    rw [famTs_of ts]
    rfl

variable {S : Set0} (hS : StdD S)
include hS
theorem repl_exact (a b c : List Nat) (h : H) (ha : a.length < 2 ^ 30) (hb : 0 < b.length) (hc : c.length < 10) : Exact S.cfg 61 [.str a, .str b, .str c] h (.str (replF a b c)) := by
  refine sum_exact hS.repl ?_
  have h1 : Nat.blt a.length 4294967281 = true := blt_iff.2 (by omega)
  have h2 : Nat.blt 0 b.length = true := blt_iff.2 hb
  have h3 : Nat.ble (a.length + (a.length + 1) * c.length) 140737488355328 = true := ble_iff.2 (by
    have := Nat.mul_le_mul_left (a.length + 1) (Nat.le_of_lt hc)
    omega)
  show (bif Nat.blt a.length 4294967281 && (Nat.blt 0 b.length && Nat.ble (a.length + (a.length + 1) * c.length) 140737488355328) then some (V.str (replF a b c)) else none) = _
  rw [h1, h2, h3]
  rfl
theorem join_exact (l : V) (ts : List (List Nat)) (sep : List Nat) (n0 B : Nat) (h : H) (ha : Wx.Acc n0 h l (ts.map V.str) 9 1) (hn : ts.length ≤ 100000) (hB : ∀ t ∈ ts, t.length ≤ B) (hB2 : B ≤ 100000) (hsep : sep.length < 10) : Exact S.cfg 28 [l, .str sep] h (.str (joinF ts sep)) := by
  rcases ha with ⟨rfl, hw⟩ | ⟨b, k, _, hb2, rfl, _, hg, hk⟩
  · have : ts = [] := List.map_eq_nil_iff.1 hw
    subst this
    exact callW_sum (s := h.st) hS.join (nice_joinM _) rfl LogOk_nil ⟨rfl, rfl⟩
  · rw [List.length_map, Nat.mul_one] at hk
    subst hk
    refine callW_sum (s := ⟨h.heap, h.nx, [.rd b 0 ts.length]⟩) hS.join (nice_joinM _) ?_ ?_ ⟨rfl, rfl⟩
    · have hg' : h.heap.get b = some (.cells (ts.map V.str) 9 true) := hg
      show (bif Nat.ble ts.length 1000000 then bnd (ld b 0 ts.length) fun cs => (match famTs cs with
        | some ts => bif Nat.ble (joinF ts sep).length 140737488355328 then Lx.ret (V.str (joinF ts sep)) else err "join"
        | none => err "join") else err "join") ⟨h.heap, h.nx, []⟩ = _
      rw [ble_iff.2 (by omega), cond_true]
      unfold Lx.bnd Lx.ld
      have hle : Nat.ble (0 + ts.length) (ts.map V.str).length = true := by simp
      have hsub : sub (ts.map V.str) 0 ts.length = ts.map V.str := by rw [sub, List.drop_zero, List.take_of_length_le (by simp)]
      have hj : Nat.ble (joinF ts sep).length 140737488355328 = true := ble_iff.2 (by
        have h1 := joinF_len (sep := sep) hB
        have h2 : ts.length * (B + sep.length) ≤ 100000 * 100010 := Nat.mul_le_mul hn (by omega)
        omega)
      simp only [hg', hle, cond_true, hsub, famTs_of, hj]
      rfl
    · rw [LogOk_cons_rd]
      exact LogOk_nil
theorem tick_spec (s : List Nat) (h : H) (hs : s.length < 2 ^ 20) : Exact S.cfg 26 [.str s] h (.str (tickF s)) := by
  refine into Tryz.f26 _ Tryz.func26 (hS.ownD _ (by decide)) rfl rfl (by kernel_rfl) (by kernel_rfl) ?_
  simp +contextual (disch := first | (simp only [fr]; done) | omega | (simp only [Knx]; omega) | (apply Nat.le_antisymm <;> simp only [Knx] <;> omega) | fail) only [wpy, fD, reduceLE, reduceLT, reduceLeDiff, UInt8.reduceToNat, ↓reduceIte, reduceEqDiff, reduceAdd, reduceCtorEq, reduceToNat, Tryz.f26]
  refine callF_exact (repl_exact hS s [96] [96, 96] _ (by omega) (by decide) (by decide)) ?_
  have h1 := replF_len s [96] [96, 96]
  simp only [List.length_cons, List.length_nil] at h1
  have h2 : (replF s [96] [96, 96]).length < 2 ^ 22 := by omega
  have h3 : 1 + (replF s [96] [96, 96]).length ≤ 9223372036854775807 := by omega
  have h4 : (replF s [96] [96, 96]).length + 1 + 1 ≤ 9223372036854775807 := by omega
  simp +contextual (disch := first | (simp only [fr]; done) | omega | (simp only [Knx]; omega) | (apply Nat.le_antisymm <;> simp only [Knx] <;> omega) | fail) only [wpy, fD, reduceLE, reduceLT, reduceLeDiff, UInt8.reduceToNat, ↓reduceIte, reduceEqDiff, reduceAdd, reduceCtorEq, reduceToNat, Tryz.f26, h3, h4]
  first | done | rfl | exact ⟨rfl, rfl⟩ | trace_state
theorem quote_spec (s : List Nat) (h : H) (hs : s.length < 2 ^ 20) : Exact S.cfg 27 [.str s] h (.str (quoteF s)) := by
  refine into Tryz.f27 _ Tryz.func27 (hS.ownD _ (by decide)) rfl rfl (by kernel_rfl) (by kernel_rfl) ?_
  simp +contextual (disch := first | (simp only [fr]; done) | omega | (simp only [Knx]; omega) | (apply Nat.le_antisymm <;> simp only [Knx] <;> omega) | fail) only [wpy, fD, reduceLE, reduceLT, reduceLeDiff, UInt8.reduceToNat, ↓reduceIte, reduceEqDiff, reduceAdd, reduceCtorEq, reduceToNat, Tryz.f27]
  refine callF_exact (repl_exact hS s [92] [92, 92] _ (by omega) (by decide) (by decide)) ?_
  have h1 := replF_len s [92] [92, 92]
  simp only [List.length_cons, List.length_nil] at h1
  have h2 : (replF s [92] [92, 92]).length < 2 ^ 22 := by omega
  simp +contextual (disch := first | (simp only [fr]; done) | omega | (simp only [Knx]; omega) | (apply Nat.le_antisymm <;> simp only [Knx] <;> omega) | fail) only [wpy, fD, reduceLE, reduceLT, reduceLeDiff, UInt8.reduceToNat, ↓reduceIte, reduceEqDiff, reduceAdd, reduceCtorEq, reduceToNat, Tryz.f27]
  refine callF_exact (repl_exact hS _ [39] [39, 39] _ (by omega) (by decide) (by decide)) ?_
  have h3 := replF_len (replF s [92] [92, 92]) [39] [39, 39]
  simp only [List.length_cons, List.length_nil] at h3
  have h4 : (replF (replF s [92] [92, 92]) [39] [39, 39]).length < 2 ^ 24 := by omega
  have h5 : 1 + (replF (replF s [92] [92, 92]) [39] [39, 39]).length ≤ 9223372036854775807 := by omega
  have h6 : (replF (replF s [92] [92, 92]) [39] [39, 39]).length + 1 + 1 ≤ 9223372036854775807 := by omega
  simp +contextual (disch := first | (simp only [fr]; done) | omega | (simp only [Knx]; omega) | (apply Nat.le_antisymm <;> simp only [Knx] <;> omega) | fail) only [wpy, fD, reduceLE, reduceLT, reduceLeDiff, UInt8.reduceToNat, ↓reduceIte, reduceEqDiff, reduceAdd, reduceCtorEq, reduceToNat, Tryz.f27, h5, h6]
  first | done | rfl | exact ⟨rfl, rfl⟩ | trace_state
def tellF (w : WD) : List Nat := if w.kind = 2 then tickF w.text else if w.kind = 3 then quoteF w.text else if w.kind = 6 then [64] ++ tickF w.text else if w.kind = 7 then [64, 64] ++ w.text else if w.kind = 8 then [63] else w.text
def digF (s : List Nat) : TF := if 1048576 < s.length then ⟨[], 3, -1⟩ else match allF s with
  | .inl ws => ⟨joinF ((wordsF ws).map tellF) [32], 0, 0⟩
  | .inr (e, p) => ⟨[], e, p⟩
omit hS in
theorem tellF_ok {B : Nat} {w : WD} (h : Gw B w) : Bytes (tellF w) ∧ (tellF w).length ≤ 9 * B + 20 := by
  have h1 := tickF_len w.text
  have h2 := quoteF_len w.text
  have h3 := h.2
  unfold tellF
  split
  · exact ⟨bytes_tick _, by omega⟩
  · split
    · exact ⟨bytes_quote _, by omega⟩
    · split
      · exact ⟨bytes_app (bytes_lit rfl) (bytes_tick _), by rw [List.length_append]; simp; omega⟩
      · split
        · exact ⟨bytes_app (bytes_lit rfl) h.1, by rw [List.length_append]; simp; omega⟩
        · split
          · exact ⟨bytes_lit rfl, by simp⟩
          · exact ⟨h.1, by omega⟩
omit hS in
theorem app_text {env : Env} {s x : Operand} {n0 : Nat} {h : H} {l : V} {ts : List (List Nat)} (t : List Nat) {Ok : Nat → Prop} {K : V → H → Fp → Prop} (hsv : evalE env s = l) (hx : evalE env x = .slice h.nx 0 1 1) (ha : Wx.Acc n0 h l (ts.map V.str) 9 1) (hroom : ts.length < 2 ^ 28) (hOk : ∀ k, n0 ≤ k → Ok k) (hn0 : n0 ≤ h.nx)
    (hK : ∀ v h' L, Wx.Acc n0 h' v ((ts ++ [t]).map V.str) 9 1 → h.nx < h'.nx → (∀ k, k < n0 → h'.get k = h.get k) → K v h' (.lg L)) : opW S.cfg Ok (.call ⟨.builtin .append, #[s, x], #[46, 46]⟩) env (h.push (.cells [.str t] 9 false)) K := by
  refine append_new (sv := l) (n0 := n0) hsv ap46 ⟨.slice 9, by kernel_rfl, rfl⟩ ha hx (n := 1) (by decide) rfl rfl ?_ (by decide) hOk hn0 ?_
  · rw [List.length_map]
    show _ + 1 ≤ _
    omega
  · intro v h' L ha' hn' _ hf' _
    exact hK v h' L (by rw [List.map_append]; exact ha') hn' hf'
set_option maxHeartbeats 2000000 in
theorem plain_spec (B N : Nat) (hN : N ≤ 10000) (hB : B ≤ 10000) (lv : V) (ws : List WD) (h : H) (ha : Wds h lv ws) (hg : Gd B N ws) : Pure S.cfg 11 [lv] h fun v _ => v = .str (joinF (ws.map tellF) [32]) := by
  refine into Tryz.f11 _ Tryz.func11 (hS.ownD _ (by decide)) rfl rfl (by kernel_rfl) (by kernel_rfl) ?_
  have a1 := ha.len
  have hwl := hg.1
  simp +contextual (disch := first | (simp only [fr]; done) | omega | (simp only [Knx]; omega) | (apply Nat.le_antisymm <;> simp only [Knx] <;> omega) | fail) only [wpy, fD, reduceLE, reduceLT, reduceLeDiff, UInt8.reduceToNat, ↓reduceIte, reduceEqDiff, reduceAdd, reduceCtorEq, reduceToNat, Tryz.f11, a1]
  refine run_loop (fun k env h' => ∃ (i : Nat) (l : V), k = ws.length - i ∧ i ≤ ws.length ∧ env 3 = l ∧ env 7 = lv ∧ env 8 = .int .i64 ws.length ∧ env 9 = .int .i64 i ∧ Ext h h' ∧ Wx.Acc h.nx h' l (((ws.take i).map tellF).map V.str) 9 1) ws.length ⟨0, .nilslice, ?_⟩ ?_
  · simp +contextual (disch := first | (simp only [fr]; done) | omega | (simp only [Knx]; omega) | (apply Nat.le_antisymm <;> simp only [Knx] <;> omega) | fail) only [wpy, fD, reduceLE, reduceLT, reduceLeDiff, UInt8.reduceToNat, ↓reduceIte, reduceEqDiff, reduceAdd, reduceCtorEq, reduceToNat]
    exact ⟨by simp, Ext.refl _, .inl ⟨rfl, rfl⟩⟩
  rintro k env h' ⟨i, l, rfl, hi, e3, e7, e8, e9, hx, hl⟩
  have hxn := hx.1
  have hc1 := hl.cell.1
  have hc2 := hl.cell.2
  by_cases hi2 : i < ws.length
  · obtain ⟨b, o, mc, c, fl, rfl, hbn, hgb, w0, w1⟩ := (ha.ext hx).get hi2
    have hgi : Gw B (gw ws i) := by rw [gw_eq hi2]; exact hg.2 _ (List.getElem_mem hi2)
    have hti : (gw ws i).text.length < 2 ^ 20 := by have := hgi.2; omega
    rw [wcell] at w1
    have hbn' : ¬ b = h'.nx := by omega
    have hst : (ws.take (i + 1)).map tellF = (ws.take i).map tellF ++ [tellF (gw ws i)] := by rw [gw_eq hi2, List.take_succ_eq_append_getElem hi2, List.map_append]; rfl
    have hl2 : ∀ o1 o2 : Ob, Wx.Acc h.nx ((h'.push o1).put h'.nx o2) l (((ws.take i).map tellF).map V.str) 9 1 := fun _ _ => hl.ext (Ext.new _ _ _)
    have hroom : ((ws.take i).map tellF).length < 2 ^ 28 := by rw [List.length_map, List.length_take]; omega
    have hend : ∀ hk : H, Ext h' hk → ∀ v h4, Wx.Acc h.nx h4 v (((ws.take i).map tellF ++ [tellF (gw ws i)]).map V.str) 9 1 → hk.nx < h4.nx → (∀ k, k < h.nx → h4.get k = hk.get k) → ∃ m', m' < ws.length - i ∧ ∃ (i' : Nat) (l : V), m' = ws.length - i' ∧ i' ≤ ws.length ∧ v = l ∧ i + 1 = i' ∧ Ext h h4 ∧ Wx.Acc h.nx h4 l (((ws.take i').map tellF).map V.str) 9 1 := fun hk hXk v h4 ha4 hn4 hf4 => ⟨_, by omega, i + 1, v, rfl, by omega, rfl, rfl, ⟨by have := hXk.1; omega, fun k hk => by rw [hf4 k hk, hXk.2 k (by omega), hx.2 k hk]⟩, by rw [hst]; exact ha4⟩
    by_cases c2 : (gw ws i).kind = 2
    · have ht : tellF (gw ws i) = tickF (gw ws i).text := by rw [tellF, if_pos c2]
      simp +contextual (disch := first | (simp only [fr]; done) | omega | (simp only [Knx]; omega) | (apply Nat.le_antisymm <;> simp only [Knx] <;> omega) | exact dok (by kernel_rfl)) only [draw_calm, draw_calmA, wpy, fD, reduceLE, reduceLT, reduceLeDiff, UInt8.reduceToNat, ↓reduceIte, reduceEqDiff, reduceAdd, reduceCtorEq, reduceToNat, Tryz.f11, e3, e7, e8, e9, hi2, hgb, hbn', w0, w1, c2]
      refine ⟨.inr hxn, callF_exact (tick_spec hS _ _ hti) ?_⟩
      simp +contextual (disch := first | (simp only [fr]; done) | omega | (simp only [Knx]; omega) | (apply Nat.le_antisymm <;> simp only [Knx] <;> omega) | fail) only [wpy, fD, reduceLE, reduceLT, reduceLeDiff, UInt8.reduceToNat, ↓reduceIte, reduceEqDiff, reduceAdd, reduceCtorEq, reduceToNat, Tryz.f11, e3, e7, e8, e9, hi2, hgb, hbn', w0, w1, c2]
      refine app_text (n0 := h.nx) (l := l) (ts := (ws.take i).map tellF) _ (by simp +contextual (disch := first | (simp only [fr]; done) | omega | (simp only [Knx]; omega) | (apply Nat.le_antisymm <;> simp only [Knx] <;> omega) | fail) only [wpy, fD, reduceLE, reduceLT, reduceLeDiff, UInt8.reduceToNat, ↓reduceIte, reduceEqDiff, reduceAdd, reduceCtorEq, reduceToNat]) (by simp +contextual (disch := first | (simp only [fr]; done) | omega | (simp only [Knx]; omega) | (apply Nat.le_antisymm <;> simp only [Knx] <;> omega) | fail) only [wpy, fD, reduceLE, reduceLT, reduceLeDiff, UInt8.reduceToNat, ↓reduceIte, reduceEqDiff, reduceAdd, reduceCtorEq, reduceToNat]) (hl2 _ _) hroom (fun k hk => by rw [fresh_def]; exact .inl hk) (by show h.nx ≤ h'.nx + 1; omega) ?_
      intro v h4 L ha4 hn4 hf4
      rw [← ht] at ha4
      have hv1 := ha4.cell.1
      have hv2 := ha4.cell.2
      simp +contextual (disch := first | (simp only [fr]; done) | omega | (simp only [Knx]; omega) | (apply Nat.le_antisymm <;> simp only [Knx] <;> omega) | fail) only [wpy, fD, reduceLE, reduceLT, reduceLeDiff, UInt8.reduceToNat, ↓reduceIte, reduceEqDiff, reduceAdd, reduceCtorEq, reduceToNat, Tryz.f11, e3, e7, e8, e9, hi2, hv1, hv2]
      exact hend _ (Ext.new _ _ _) v h4 ha4 hn4 hf4
    by_cases c3 : (gw ws i).kind = 3
    · have ht : tellF (gw ws i) = quoteF (gw ws i).text := by rw [tellF, if_neg c2, if_pos c3]
      simp +contextual (disch := first | (simp only [fr]; done) | omega | (simp only [Knx]; omega) | (apply Nat.le_antisymm <;> simp only [Knx] <;> omega) | exact dok (by kernel_rfl)) only [draw_calm, draw_calmA, wpy, fD, reduceLE, reduceLT, reduceLeDiff, UInt8.reduceToNat, ↓reduceIte, reduceEqDiff, reduceAdd, reduceCtorEq, reduceToNat, Tryz.f11, e3, e7, e8, e9, hi2, hgb, hbn', w0, w1, c2, c3]
      refine ⟨.inr hxn, callF_exact (quote_spec hS _ _ hti) ?_⟩
      simp +contextual (disch := first | (simp only [fr]; done) | omega | (simp only [Knx]; omega) | (apply Nat.le_antisymm <;> simp only [Knx] <;> omega) | fail) only [wpy, fD, reduceLE, reduceLT, reduceLeDiff, UInt8.reduceToNat, ↓reduceIte, reduceEqDiff, reduceAdd, reduceCtorEq, reduceToNat, Tryz.f11, e3, e7, e8, e9, hi2, hgb, hbn', w0, w1, c2]
      refine app_text (n0 := h.nx) (l := l) (ts := (ws.take i).map tellF) _ (by simp +contextual (disch := first | (simp only [fr]; done) | omega | (simp only [Knx]; omega) | (apply Nat.le_antisymm <;> simp only [Knx] <;> omega) | fail) only [wpy, fD, reduceLE, reduceLT, reduceLeDiff, UInt8.reduceToNat, ↓reduceIte, reduceEqDiff, reduceAdd, reduceCtorEq, reduceToNat]) (by simp +contextual (disch := first | (simp only [fr]; done) | omega | (simp only [Knx]; omega) | (apply Nat.le_antisymm <;> simp only [Knx] <;> omega) | fail) only [wpy, fD, reduceLE, reduceLT, reduceLeDiff, UInt8.reduceToNat, ↓reduceIte, reduceEqDiff, reduceAdd, reduceCtorEq, reduceToNat]) (hl2 _ _) hroom (fun k hk => by rw [fresh_def]; exact .inl hk) (by show h.nx ≤ h'.nx + 1; omega) ?_
      intro v h4 L ha4 hn4 hf4
      rw [← ht] at ha4
      have hv1 := ha4.cell.1
      have hv2 := ha4.cell.2
      simp +contextual (disch := first | (simp only [fr]; done) | omega | (simp only [Knx]; omega) | (apply Nat.le_antisymm <;> simp only [Knx] <;> omega) | fail) only [wpy, fD, reduceLE, reduceLT, reduceLeDiff, UInt8.reduceToNat, ↓reduceIte, reduceEqDiff, reduceAdd, reduceCtorEq, reduceToNat, Tryz.f11, e3, e7, e8, e9, hi2, hv1, hv2]
      exact hend _ (Ext.new _ _ _) v h4 ha4 hn4 hf4
    by_cases c6 : (gw ws i).kind = 6
    · have ht : tellF (gw ws i) = 64 :: tickF (gw ws i).text := by rw [tellF, if_neg c2, if_neg c3, if_pos c6]; rfl
      have hb6 := tickF_len (gw ws i).text
      have hb7 : 1 + (tickF (gw ws i).text).length ≤ 9223372036854775807 := by omega
      simp +contextual (disch := first | (simp only [fr]; done) | omega | (simp only [Knx]; omega) | (apply Nat.le_antisymm <;> simp only [Knx] <;> omega) | exact dok (by kernel_rfl)) only [draw_calm, draw_calmA, wpy, fD, reduceLE, reduceLT, reduceLeDiff, UInt8.reduceToNat, ↓reduceIte, reduceEqDiff, reduceAdd, reduceCtorEq, reduceToNat, Tryz.f11, e3, e7, e8, e9, hi2, hgb, hbn', w0, w1, c2, c3, c6]
      refine ⟨.inr hxn, callF_exact (tick_spec hS _ _ hti) ?_⟩
      simp +contextual (disch := first | (simp only [fr]; done) | omega | (simp only [Knx]; omega) | (apply Nat.le_antisymm <;> simp only [Knx] <;> omega) | fail) only [wpy, fD, reduceLE, reduceLT, reduceLeDiff, UInt8.reduceToNat, ↓reduceIte, reduceEqDiff, reduceAdd, reduceCtorEq, reduceToNat, Tryz.f11, e3, e7, e8, e9, hi2, hgb, hbn', w0, w1, c2, hb7]
      refine app_text (n0 := h.nx) (l := l) (ts := (ws.take i).map tellF) _ (by simp +contextual (disch := first | (simp only [fr]; done) | omega | (simp only [Knx]; omega) | (apply Nat.le_antisymm <;> simp only [Knx] <;> omega) | fail) only [wpy, fD, reduceLE, reduceLT, reduceLeDiff, UInt8.reduceToNat, ↓reduceIte, reduceEqDiff, reduceAdd, reduceCtorEq, reduceToNat]) (by simp +contextual (disch := first | (simp only [fr]; done) | omega | (simp only [Knx]; omega) | (apply Nat.le_antisymm <;> simp only [Knx] <;> omega) | fail) only [wpy, fD, reduceLE, reduceLT, reduceLeDiff, UInt8.reduceToNat, ↓reduceIte, reduceEqDiff, reduceAdd, reduceCtorEq, reduceToNat]) (hl2 _ _) hroom (fun k hk => by rw [fresh_def]; exact .inl hk) (by show h.nx ≤ h'.nx + 1; omega) ?_
      intro v h4 L ha4 hn4 hf4
      rw [← ht] at ha4
      have hv1 := ha4.cell.1
      have hv2 := ha4.cell.2
      simp +contextual (disch := first | (simp only [fr]; done) | omega | (simp only [Knx]; omega) | (apply Nat.le_antisymm <;> simp only [Knx] <;> omega) | fail) only [wpy, fD, reduceLE, reduceLT, reduceLeDiff, UInt8.reduceToNat, ↓reduceIte, reduceEqDiff, reduceAdd, reduceCtorEq, reduceToNat, Tryz.f11, e3, e7, e8, e9, hi2, hv1, hv2]
      exact hend _ (Ext.new _ _ _) v h4 ha4 hn4 hf4
    by_cases c7 : (gw ws i).kind = 7
    · have ht : tellF (gw ws i) = 64 :: 64 :: (gw ws i).text := by rw [tellF, if_neg c2, if_neg c3, if_neg c6, if_pos c7]; rfl
      have hb7 : 2 + (gw ws i).text.length ≤ 9223372036854775807 := by omega
      have hb8 : 1 + 1 + (gw ws i).text.length ≤ 9223372036854775807 := by omega
      simp +contextual (disch := first | (simp only [fr]; done) | omega | (simp only [Knx]; omega) | (apply Nat.le_antisymm <;> simp only [Knx] <;> omega) | exact dok (by kernel_rfl)) only [draw_calm, draw_calmA, wpy, fD, reduceLE, reduceLT, reduceLeDiff, UInt8.reduceToNat, ↓reduceIte, reduceEqDiff, reduceAdd, reduceCtorEq, reduceToNat, Tryz.f11, e3, e7, e8, e9, hi2, hgb, hbn', w0, w1, c2, c3, c6, c7, hb7, hb8]
      refine ⟨.inr hxn, ?_⟩
      refine app_text (n0 := h.nx) (l := l) (ts := (ws.take i).map tellF) _ (by simp +contextual (disch := first | (simp only [fr]; done) | omega | (simp only [Knx]; omega) | (apply Nat.le_antisymm <;> simp only [Knx] <;> omega) | fail) only [wpy, fD, reduceLE, reduceLT, reduceLeDiff, UInt8.reduceToNat, ↓reduceIte, reduceEqDiff, reduceAdd, reduceCtorEq, reduceToNat]) (by simp +contextual (disch := first | (simp only [fr]; done) | omega | (simp only [Knx]; omega) | (apply Nat.le_antisymm <;> simp only [Knx] <;> omega) | fail) only [wpy, fD, reduceLE, reduceLT, reduceLeDiff, UInt8.reduceToNat, ↓reduceIte, reduceEqDiff, reduceAdd, reduceCtorEq, reduceToNat]) (hl2 _ _) hroom (fun k hk => by rw [fresh_def]; exact .inl hk) (by show h.nx ≤ h'.nx + 1; omega) ?_
      intro v h4 L ha4 hn4 hf4
      rw [← ht] at ha4
      have hv1 := ha4.cell.1
      have hv2 := ha4.cell.2
      simp +contextual (disch := first | (simp only [fr]; done) | omega | (simp only [Knx]; omega) | (apply Nat.le_antisymm <;> simp only [Knx] <;> omega) | fail) only [wpy, fD, reduceLE, reduceLT, reduceLeDiff, UInt8.reduceToNat, ↓reduceIte, reduceEqDiff, reduceAdd, reduceCtorEq, reduceToNat, Tryz.f11, e3, e7, e8, e9, hi2, hv1, hv2]
      exact hend _ (Ext.new _ _ _) v h4 ha4 hn4 hf4
    by_cases c8 : (gw ws i).kind = 8
    · have ht : tellF (gw ws i) = [63] := by rw [tellF, if_neg c2, if_neg c3, if_neg c6, if_neg c7, if_pos c8]
      simp +contextual (disch := first | (simp only [fr]; done) | omega | (simp only [Knx]; omega) | (apply Nat.le_antisymm <;> simp only [Knx] <;> omega) | exact dok (by kernel_rfl)) only [draw_calm, draw_calmA, wpy, fD, reduceLE, reduceLT, reduceLeDiff, UInt8.reduceToNat, ↓reduceIte, reduceEqDiff, reduceAdd, reduceCtorEq, reduceToNat, Tryz.f11, e3, e7, e8, e9, hi2, hgb, hbn', w0, w1, c2, c3, c6, c7, c8]
      refine ⟨.inr hxn, ?_⟩
      refine app_text (n0 := h.nx) (l := l) (ts := (ws.take i).map tellF) _ (by simp +contextual (disch := first | (simp only [fr]; done) | omega | (simp only [Knx]; omega) | (apply Nat.le_antisymm <;> simp only [Knx] <;> omega) | fail) only [wpy, fD, reduceLE, reduceLT, reduceLeDiff, UInt8.reduceToNat, ↓reduceIte, reduceEqDiff, reduceAdd, reduceCtorEq, reduceToNat]) (by simp +contextual (disch := first | (simp only [fr]; done) | omega | (simp only [Knx]; omega) | (apply Nat.le_antisymm <;> simp only [Knx] <;> omega) | fail) only [wpy, fD, reduceLE, reduceLT, reduceLeDiff, UInt8.reduceToNat, ↓reduceIte, reduceEqDiff, reduceAdd, reduceCtorEq, reduceToNat]) (hl2 _ _) hroom (fun k hk => by rw [fresh_def]; exact .inl hk) (by show h.nx ≤ h'.nx + 1; omega) ?_
      intro v h4 L ha4 hn4 hf4
      rw [← ht] at ha4
      have hv1 := ha4.cell.1
      have hv2 := ha4.cell.2
      simp +contextual (disch := first | (simp only [fr]; done) | omega | (simp only [Knx]; omega) | (apply Nat.le_antisymm <;> simp only [Knx] <;> omega) | fail) only [wpy, fD, reduceLE, reduceLT, reduceLeDiff, UInt8.reduceToNat, ↓reduceIte, reduceEqDiff, reduceAdd, reduceCtorEq, reduceToNat, Tryz.f11, e3, e7, e8, e9, hi2, hv1, hv2]
      exact hend _ (Ext.new _ _ _) v h4 ha4 hn4 hf4
    · have ht : tellF (gw ws i) = (gw ws i).text := by rw [tellF, if_neg c2, if_neg c3, if_neg c6, if_neg c7, if_neg c8]
      simp +contextual (disch := first | (simp only [fr]; done) | omega | (simp only [Knx]; omega) | (apply Nat.le_antisymm <;> simp only [Knx] <;> omega) | exact dok (by kernel_rfl)) only [draw_calm, draw_calmA, wpy, fD, reduceLE, reduceLT, reduceLeDiff, UInt8.reduceToNat, ↓reduceIte, reduceEqDiff, reduceAdd, reduceCtorEq, reduceToNat, Tryz.f11, e3, e7, e8, e9, hi2, hgb, hbn', w0, w1, c2, c3, c6, c7, c8]
      refine ⟨.inr hxn, ?_⟩
      refine app_text (n0 := h.nx) (l := l) (ts := (ws.take i).map tellF) _ (by simp +contextual (disch := first | (simp only [fr]; done) | omega | (simp only [Knx]; omega) | (apply Nat.le_antisymm <;> simp only [Knx] <;> omega) | fail) only [wpy, fD, reduceLE, reduceLT, reduceLeDiff, UInt8.reduceToNat, ↓reduceIte, reduceEqDiff, reduceAdd, reduceCtorEq, reduceToNat]) (by simp +contextual (disch := first | (simp only [fr]; done) | omega | (simp only [Knx]; omega) | (apply Nat.le_antisymm <;> simp only [Knx] <;> omega) | fail) only [wpy, fD, reduceLE, reduceLT, reduceLeDiff, UInt8.reduceToNat, ↓reduceIte, reduceEqDiff, reduceAdd, reduceCtorEq, reduceToNat]) (hl2 _ _) hroom (fun k hk => by rw [fresh_def]; exact .inl hk) (by show h.nx ≤ h'.nx + 1; omega) ?_
      intro v h4 L ha4 hn4 hf4
      rw [← ht] at ha4
      have hv1 := ha4.cell.1
      have hv2 := ha4.cell.2
      simp +contextual (disch := first | (simp only [fr]; done) | omega | (simp only [Knx]; omega) | (apply Nat.le_antisymm <;> simp only [Knx] <;> omega) | fail) only [wpy, fD, reduceLE, reduceLT, reduceLeDiff, UInt8.reduceToNat, ↓reduceIte, reduceEqDiff, reduceAdd, reduceCtorEq, reduceToNat, Tryz.f11, e3, e7, e8, e9, hi2, hv1, hv2]
      exact hend _ (Ext.new _ _ _) v h4 ha4 hn4 hf4
  · have hle : i = ws.length := by omega
    subst hle
    rw [List.take_length] at hl
    simp +contextual (disch := first | (simp only [fr]; done) | omega | (simp only [Knx]; omega) | (apply Nat.le_antisymm <;> simp only [Knx] <;> omega) | exact dok (by kernel_rfl)) only [draw_calm, draw_calmA, wpy, fD, reduceLE, reduceLT, reduceLeDiff, UInt8.reduceToNat, ↓reduceIte, reduceEqDiff, reduceAdd, reduceCtorEq, reduceToNat, Tryz.f11, e3, e7, e8, e9, hi2]
    refine callF_exact (join_exact hS l (ws.map tellF) [32] h.nx (9 * B + 20) h' hl ?_ ?_ (by omega) (by decide)) ?_
    · rw [List.length_map]; omega
    · intro t ht
      obtain ⟨w, hw, rfl⟩ := List.mem_map.1 ht
      exact (tellF_ok (hg.2 w hw)).2
    simp +contextual (disch := first | (simp only [fr]; done) | omega | (simp only [Knx]; omega) | (apply Nat.le_antisymm <;> simp only [Knx] <;> omega) | exact dok (by kernel_rfl)) only [draw_calm, draw_calmA, wpy, fD, reduceLE, reduceLT, reduceLeDiff, UInt8.reduceToNat, ↓reduceIte, reduceEqDiff, reduceAdd, reduceCtorEq, reduceToNat, Tryz.f11, e3, e7, e8, e9, hi2]
    first | exact hx | exact ⟨hx, rfl⟩ | trace_state
end
end Go.Proofs.YtkibhdbmamfjcaaGreatDoor
set_option maxHeartbeats 1000000
set_option linter.unusedSimpArgs false
set_option linter.unusedVariables false
set_option linter.defProp false
set_option maxRecDepth 10000
namespace Go.Proofs.YtkibhdbmamfjcaaGreatDoor
open Int (reduceLE reduceLT reduceToNat)
open Nat (reduceLeDiff reduceEqDiff reduceAdd)
open Go.Proofs Go.Lx Go.Wx Go.IntWalk
noncomputable section

theorem eq25_0 (a b c d : Int) : eqT Tryz.prog 25 (.agg [.int .i64 a, .int .i64 b]) (.agg [.int .i64 c, .int .i64 d]) = (match some (a == c) with
    | some true => (match some (b == d) with
      | some true => some true
      | r => r)
    | r => r) := by kernel_rfl
theorem eq25 (a b c d : Int) : eqT Tryz.prog 25 (.agg [.int .i64 a, .int .i64 b]) (.agg [.int .i64 c, .int .i64 d]) = some (decide (a = c ∧ b = d)) := by
  rw [eq25_0]
  by_cases h1 : a = c
  · by_cases h2 : b = d
    · simp [h1, h2]
    · have : (b == d) = false := by simpa using h2
      simp [h1, h2, this]
  · have : (a == c) = false := by simpa using h1
    simp [h1, this]
theorem dagg_neq (q : Bool) (a b c d : Int) : binV Tryz.prog .neq 25 q (.agg [.int .i64 a, .int .i64 b]) (.agg [.int .i64 c, .int .i64 d]) = some (bo (¬ (a = c ∧ b = d))) := by
  have : binV Tryz.prog .neq 25 q (.agg [.int .i64 a, .int .i64 b]) (.agg [.int .i64 c, .int .i64 d]) = eqOpV Tryz.prog .neq 25 (.agg [.int .i64 a, .int .i64 b]) (.agg [.int .i64 c, .int .i64 d]) := rfl
  rw [this, eqOpV, eq25]
  unfold bo
  by_cases h : a = c ∧ b = d <;> simp [h]

variable {S : Set0} (hS : StdD S)
include hS
set_option maxHeartbeats 2000000 in
theorem text_spec' (s : List Nat) (h : H) (hb : Bytes s) (hs : s.length ≤ 10000) : Pure S.cfg 5 [.str s] h fun v _ => v = (digF s).v := by
  refine into Tryz.f5 _ Tryz.func5 (hS.ownD _ (by decide)) rfl rfl (by kernel_rfl) (by kernel_rfl) ?_
  simp +contextual (disch := first | (simp only [fr]; done) | omega | (simp only [Knx]; omega) | (apply Nat.le_antisymm <;> simp only [Knx] <;> omega) | fail) only [wpy, fD, reduceLE, reduceLT, reduceLeDiff, UInt8.reduceToNat, ↓reduceIte, reduceEqDiff, reduceAdd, reduceCtorEq, reduceToNat, Tryz.f5]
  refine callF_pure (all_spec hS.toStdF s _ hb (by omega)) ?_
  intro v h1 hx hv
  have hX1 : Ext h h1 := ((Ext.refl h).push _).trans hx
  have hle := hx.1
  have n1 : ¬ h.nx = h1.nx := by rw [push_nx] at hle; omega
  have g1 : h1.get h.nx = some (.cells [.int .i64 0, .int .i64 0] 25 false) := by rw [hx.2 h.nx (Nat.lt_succ_self _), push_eq rfl]
  unfold allV at hv
  rw [if_neg (by omega)] at hv
  have hdig : digF s = match allF s with
    | .inl ws => ⟨joinF ((wordsF ws).map tellF) [32], 0, 0⟩
    | .inr (e, p) => ⟨[], e, p⟩ := by rw [digF, if_neg (by omega)] <;> (cases allF s <;> rfl)
  rw [hdig]
  cases hA : allF s with
  | inl ws =>
    rw [hA] at hv
    obtain ⟨l, rfl, hl⟩ := hv
    have hc1 := hl.cell.1
    have hc2 := hl.cell.2
    have hgood := allF_good hb hA
    simp +contextual (disch := first | (simp only [fr]; done) | omega | (simp only [Knx]; omega) | (apply Nat.le_antisymm <;> simp only [Knx] <;> omega) | fail) only [wpy, fD, reduceLE, reduceLT, reduceLeDiff, UInt8.reduceToNat, ↓reduceIte, reduceEqDiff, reduceAdd, reduceCtorEq, reduceToNat, Tryz.f5, hc1, hc2, dagg_neq, n1, g1]
    refine ⟨.inr hX1.1, callF_pure (words_spec hS l ws _ ((Wds.of_acc hl).ext (Ext.new _ _ _)) (by have := hgood.1; omega)) ?_⟩
    intro v2 h2 hx2 hw2
    have hi2 := hw2.cell
    have hX2 : Ext h h2 := (hX1.trans (Ext.new _ _ _)).trans hx2
    have g2 : h2.get h.nx = some (.cells [.int .i64 0, .int .i64 0] 25 false) := by rw [hx2.2 h.nx (by rw [put_nx, push_nx]; rw [push_nx] at hle; omega), put_ne n1, push_ne n1]; exact g1
    simp +contextual (disch := first | (simp only [fr]; done) | omega | (simp only [Knx]; omega) | (apply Nat.le_antisymm <;> simp only [Knx] <;> omega) | fail) only [wpy, fD, reduceLE, reduceLT, reduceLeDiff, UInt8.reduceToNat, ↓reduceIte, reduceEqDiff, reduceAdd, reduceCtorEq, reduceToNat, Tryz.f5, hi2.1, hi2.2]
    refine callF_pure (plain_spec hS s.length s.length hs hs v2 _ h2 hw2 (wordsF_good hgood)) ?_
    rintro v3 h3 hx3 rfl
    have g3 : h3.get h.nx = some (.cells [.int .i64 0, .int .i64 0] 25 false) := by rw [hx3.2 h.nx (by have := hx2.1; rw [put_nx, push_nx] at this; rw [push_nx] at hle; omega)]; exact g2
    simp +contextual (disch := first | (simp only [fr]; done) | omega | (simp only [Knx]; omega) | (apply Nat.le_antisymm <;> simp only [Knx] <;> omega) | exact dok (by kernel_rfl)) only [draw_calm, draw_calmA, wpy, fD, reduceLE, reduceLT, reduceLeDiff, UInt8.reduceToNat, ↓reduceIte, reduceEqDiff, reduceAdd, reduceCtorEq, reduceToNat, Tryz.f5, g3]
    exact ⟨(hX2.trans hx3).put (Nat.le_refl _) _, rfl⟩
  | inr ep =>
    obtain ⟨e, p⟩ := ep
    rw [hA] at hv
    subst hv
    have he := allR_err _ _ _ _ _ hA
    have he' : ¬ (e = 0 ∧ p = 0) := by omega
    simp +contextual (disch := first | (simp only [fr]; done) | omega | (simp only [Knx]; omega) | (apply Nat.le_antisymm <;> simp only [Knx] <;> omega) | exact dok (by kernel_rfl)) only [draw_calm, draw_calmA, wpy, fD, reduceLE, reduceLT, reduceLeDiff, UInt8.reduceToNat, ↓reduceIte, reduceEqDiff, reduceAdd, reduceCtorEq, reduceToNat, Tryz.f5, dagg_neq, he', n1, g1]
    exact ⟨.inr hX1.1, ((hX1.push _).put hX1.1 _).put (Nat.le_refl _) _, rfl⟩
end
end Go.Proofs.YtkibhdbmamfjcaaGreatDoor
set_option maxHeartbeats 1000000
set_option linter.unusedSimpArgs false
set_option linter.unusedVariables false
set_option linter.unusedSectionVars false
set_option linter.defProp false
set_option maxRecDepth 10000
namespace Go.Proofs.YtkibhdbmamfjcaaGreatDoor
open Int (reduceLE reduceLT reduceToNat)
open Nat (reduceLeDiff reduceEqDiff reduceAdd)
open Go.Proofs Go.Lx Go.Wx Go.IntWalk
noncomputable section

theorem wrap_u64 (z : Int) : 0 ≤ IntKind.u64.wrap z := by
  unfold IntKind.wrap
  simp [IntKind.signed, IntKind.bits]
  omega
def rotF (x n : Int) : Int := iOr .u32 (iShl .u32 x (iAnd .u64 (IntKind.u64.wrap n) 31)) (iShr .u32 x (IntKind.u64.wrap (32 - iAnd .u64 (IntKind.u64.wrap n) 31)))
def rorF (x n : Int) : Int := rotF x (IntKind.i64.wrap (0 - n))
def wordF (a b c d : Nat) : Int := iOr .u32 (iOr .u32 (iOr .u32 (iShl .u32 (IntKind.u32.wrap (a : Nat)) 24) (iShl .u32 (IntKind.u32.wrap (b : Nat)) 16)) (iShl .u32 (IntKind.u32.wrap (c : Nat)) 8)) (IntKind.u32.wrap (d : Nat))

def KL : List Int := [1116352408,1899447441,3049323471,3921009573,961987163,1508970993,2453635748,2870763221,3624381080,310598401,607225278,1426881987,1925078388,2162078206,2614888103,3248222580,3835390401,4022224774,264347078,604807628,770255983,1249150122,1555081692,1996064986,2554220882,2821834349,2952996808,3210313671,3336571891,3584528711,113926993,338241895,666307205,773529912,1294757372,1396182291,1695183700,1986661051,2177026350,2456956037,2730485921,2820302411,3259730800,3345764771,3516065817,3600352804,4094571909,275423344,430227734,506948616,659060556,883997877,958139571,1322822218,1537002063,1747873779,1955562222,2024104815,2227730452,2361852424,2428436474,2756734187,3204031479,3329325298]
def s0F (w : Int) : Int := iXor .u32 (iXor .u32 (rorF w 7) (rorF w 18)) (iShr .u32 w 3)
def s1F (w : Int) : Int := iXor .u32 (iXor .u32 (rorF w 17) (rorF w 19)) (iShr .u32 w 10)
def wv (rest : List Nat) (W : List Int) (t : Nat) : Int := if t < 16 then wordF (rest.getD (4 * t) 0) (rest.getD (4 * t + 1) 0) (rest.getD (4 * t + 2) 0) (rest.getD (4 * t + 3) 0) else IntKind.u32.wrap (IntKind.u32.wrap (IntKind.u32.wrap (s1F (W.getD (t - 2) 0) + W.getD (t - 7) 0) + s0F (W.getD (t - 15) 0)) + W.getD (t - 16) 0)
def wS (rest : List Nat) : Nat → List Int
  | 0 => List.replicate 64 0
  | t + 1 => (wS rest t).set t (wv rest (wS rest t) t)
theorem wS_len (rest : List Nat) : ∀ t, (wS rest t).length = 64
  | 0 => rfl
  | t + 1 => by rw [wS, List.length_set, wS_len rest t]
def xF (W v : List Int) (t : Nat) : Int := IntKind.u32.wrap (IntKind.u32.wrap (IntKind.u32.wrap (IntKind.u32.wrap (v.getD 7 0 + iXor .u32 (iXor .u32 (rorF (v.getD 4 0) 6) (rorF (v.getD 4 0) 11)) (rorF (v.getD 4 0) 25)) + iXor .u32 (iAnd .u32 (v.getD 4 0) (v.getD 5 0)) (iAnd .u32 (iXor .u32 IntKind.u32.max (v.getD 4 0)) (v.getD 6 0))) + KL.getD t 0) + W.getD t 0)
def yF (v : List Int) : Int := IntKind.u32.wrap (iXor .u32 (iXor .u32 (rorF (v.getD 0 0) 2) (rorF (v.getD 0 0) 13)) (rorF (v.getD 0 0) 22) + iXor .u32 (iXor .u32 (iAnd .u32 (v.getD 0 0) (v.getD 1 0)) (iAnd .u32 (v.getD 0 0) (v.getD 2 0))) (iAnd .u32 (v.getD 1 0) (v.getD 2 0)))
def vstep (W v : List Int) (t : Nat) : List Int := [IntKind.u32.wrap (xF W v t + yF v), v.getD 0 0, v.getD 1 0, v.getD 2 0, IntKind.u32.wrap (v.getD 3 0 + xF W v t), v.getD 4 0, v.getD 5 0, v.getD 6 0]
def vS (W ws : List Int) : Nat → List Int
  | 0 => ws
  | t + 1 => vstep W (vS W ws t) t
theorem vS_len {W ws : List Int} (hw : ws.length = 8) : ∀ t, (vS W ws t).length = 8
  | 0 => hw
  | t + 1 => rfl
def aS (ws v : List Int) : Nat → List Int
  | 0 => ws
  | i + 1 => (aS ws v i).set i (IntKind.u32.wrap ((aS ws v i).getD i 0 + v.getD i 0))
theorem aS_len {ws v : List Int} (hw : ws.length = 8) : ∀ t, (aS ws v t).length = 8
  | 0 => hw
  | t + 1 => by rw [aS, List.length_set, aS_len hw t]
def blkF (ws : List Int) (rest : List Nat) : List Int := aS ws (vS (wS rest 64) ws 64) 8
theorem blkF_len {ws : List Int} {rest : List Nat} (hw : ws.length = 8) : (blkF ws rest).length = 8 := aS_len hw 8
theorem intsV_get {l : List Int} {n i : Nat} (hl : l.length = n) (hi : i < n) : (l.map (V.int .u32))[i]? = some (.int .u32 (l.getD i 0)) := by
  rw [List.getElem?_map, List.getD_eq_getElem?_getD, List.getElem?_eq_getElem (by omega)]
  rfl
theorem intsV_set {l : List Int} {n i : Nat} (hl : l.length = n) (hi : i < n) (x : Int) : listPut (l.map (V.int .u32)) i [.int .u32 x] = (l.set i x).map (V.int .u32) := by
  rw [listPut_one, List.map_set]
def hashC (ws : List Int) (rest : List Nat) (n all : Int) : List V := .int .i64 2 :: (ws.map (V.int .u32) ++ (bytesV rest ++ [.int .i64 n, .int .i64 all]))
section
variable {ws : List Int} {rest : List Nat} {n all : Int} (hw : ws.length = 8) (hr : rest.length = 64)
theorem bytesV_len (l : List Nat) : (bytesV l).length = l.length := by simp [bytesV]
include hw hr
theorem hashC_len : (hashC ws rest n all).length = 75 := by simp [hashC, bytesV_len, hw, hr]
theorem hashC_w {i : Nat} (hi : i < 8) : (hashC ws rest n all)[1 + i]? = some (.int .u32 (ws.getD i 0)) := by
  rw [hashC, Nat.add_comm, List.getElem?_cons_succ, List.getElem?_append_left (by simp [hw]; exact hi), List.getElem?_map, List.getElem?_eq_getElem (by omega), List.getD_eq_getElem?_getD, List.getElem?_eq_getElem (by omega)]
  rfl
theorem hashC_r {i : Nat} (hi : i < 64) : (hashC ws rest n all)[9 + i]? = some (.int .u8 (rest.getD i 0 : Nat)) := by
  rw [hashC, show 9 + i = (8 + i) + 1 by omega, List.getElem?_cons_succ, List.getElem?_append_right (by simp [hw]), List.length_map, hw, Nat.add_sub_cancel_left, List.getElem?_append_left (by rw [bytesV_len]; omega), bytesV, List.getElem?_map, List.getElem?_eq_getElem (by omega), List.getD_eq_getElem?_getD, List.getElem?_eq_getElem (by omega)]
  rfl
theorem hashC_n : (hashC ws rest n all)[73]? = some (.int .i64 n) := by
  rw [hashC, show 73 = (8 + 64) + 1 from rfl, List.getElem?_cons_succ, List.getElem?_append_right (by simp [hw]), List.length_map, hw, Nat.add_sub_cancel_left, List.getElem?_append_right (by rw [bytesV_len]; omega), bytesV_len, hr]
  rfl
theorem hashC_all : (hashC ws rest n all)[74]? = some (.int .i64 all) := by
  rw [hashC, show 74 = (8 + 65) + 1 from rfl, List.getElem?_cons_succ, List.getElem?_append_right (by simp [hw]), List.length_map, hw, Nat.add_sub_cancel_left, List.getElem?_append_right (by rw [bytesV_len]; omega), bytesV_len, hr]
  rfl
theorem hashC_words : ((hashC ws rest n all).drop 1).take 8 = ws.map (V.int .u32) := by
  rw [hashC, List.drop_succ_cons, List.drop_zero, List.take_append_of_le_length (by simp [hw]), List.take_of_length_le (by simp [hw])]
theorem hashC_set_n (n' : Int) : listPut (hashC ws rest n all) 73 [.int .i64 n'] = hashC ws rest n' all := by
  rw [listPut_one, hashC, show 73 = (8 + 64) + 1 from rfl, List.set_cons_succ, List.set_append_right _ _ (by simp [hw]), List.length_map, hw, Nat.add_sub_cancel_left, List.set_append_right _ _ (by rw [bytesV_len]; omega), bytesV_len, hr]
  rfl
theorem hashC_set_all (a' : Int) : listPut (hashC ws rest n all) 74 [.int .i64 a'] = hashC ws rest n a' := by
  rw [listPut_one, hashC, show 74 = (8 + 65) + 1 from rfl, List.set_cons_succ, List.set_append_right _ _ (by simp [hw]), List.length_map, hw, Nat.add_sub_cancel_left, List.set_append_right _ _ (by rw [bytesV_len]; omega), bytesV_len, hr]
  rfl
theorem hashC_set_r {i : Nat} (hi : i < 64) (x : Nat) : listPut (hashC ws rest n all) (9 + i) [.int .u8 (x : Nat)] = hashC ws (rest.set i x) n all := by
  rw [listPut_one, hashC, show 9 + i = (8 + i) + 1 by omega, List.set_cons_succ, List.set_append_right _ _ (by simp [hw]), List.length_map, hw, Nat.add_sub_cancel_left, List.set_append_left _ _ (by rw [bytesV_len]; omega), bytesV, ← List.map_set]
  rfl
theorem hashC_set_w {i : Nat} (hi : i < 8) (x : Int) : listPut (hashC ws rest n all) (1 + i) [.int .u32 x] = hashC (ws.set i x) rest n all := by
  rw [listPut_one, hashC, Nat.add_comm, List.set_cons_succ, List.set_append_left _ _ (by simp [hw]; exact hi), ← List.map_set]
  rfl
end
structure StdH (S : Set0) : Prop extends StdD S where
  ownH : ∀ f, f ∈ [16, 43, 80, 81, 82, 102, 103, 115, 101, 121, 123, 122, 124] → sums S.exts f = none
  livesD : ∀ h : H, Exact S.cfg 4 [] h (.bool true)

variable {S : Set0} (hS : StdH S)
include hS
theorem rot_spec (x n : Int) (h : H) : Exact S.cfg 122 [.int .u32 x, .int .i64 n] h (.int .u32 (rotF x n)) := by
  refine into Tryz.f122 _ Tryz.func122 (hS.ownH _ (by decide)) rfl rfl (by kernel_rfl) (by kernel_rfl) ?_
  have w1 : ¬ iAnd .u64 (IntKind.u64.wrap n) 31 < 0 := by have := wrap_u64 ((BitVec.ofInt IntKind.u64.bits (IntKind.u64.wrap n) &&& BitVec.ofInt IntKind.u64.bits 31).toNat); unfold iAnd; omega
  have w2 : ¬ IntKind.u64.wrap (32 - iAnd .u64 (IntKind.u64.wrap n) 31) < 0 := by have := wrap_u64 (32 - iAnd .u64 (IntKind.u64.wrap n) 31); omega
  simp +contextual (disch := first | (simp only [fr]; done) | omega | (simp only [Knx]; omega) | (apply Nat.le_antisymm <;> simp only [Knx] <;> omega) | fail) only [wpy, fD, reduceLE, reduceLT, reduceLeDiff, UInt8.reduceToNat, ↓reduceIte, reduceEqDiff, reduceAdd, reduceCtorEq, reduceToNat, Tryz.f122, w1, w2]
  rfl
theorem ror_spec (x n : Int) (h : H) : Exact S.cfg 123 [.int .u32 x, .int .i64 n] h (.int .u32 (rorF x n)) := by
  refine into Tryz.f123 _ Tryz.func123 (hS.ownH _ (by decide)) rfl rfl (by kernel_rfl) (by kernel_rfl) ?_
  simp +contextual (disch := first | (simp only [fr]; done) | omega | (simp only [Knx]; omega) | (apply Nat.le_antisymm <;> simp only [Knx] <;> omega) | fail) only [wpy, fD, reduceLE, reduceLT, reduceLeDiff, UInt8.reduceToNat, ↓reduceIte, reduceEqDiff, reduceAdd, reduceCtorEq, reduceToNat, Tryz.f123]
  refine callF_exact (rot_spec hS _ _ _) ?_
  simp +contextual (disch := first | (simp only [fr]; done) | omega | (simp only [Knx]; omega) | (apply Nat.le_antisymm <;> simp only [Knx] <;> omega) | fail) only [wpy, fD, reduceLE, reduceLT, reduceLeDiff, UInt8.reduceToNat, ↓reduceIte, reduceEqDiff, reduceAdd, reduceCtorEq, reduceToNat, Tryz.f123]
  rfl
theorem word_spec (b o n m : Nat) (a0 a1 a2 a3 : Nat) (c : List V) (e : TypeId) (fl : Bool) (h : H) (hn : 4 ≤ n) (b0 : a0 < 256) (b1 : a1 < 256) (b2 : a2 < 256) (b3 : a3 < 256) (hg : h.get b = some (.cells c e fl)) (g0 : c[o]? = some (.int .u8 (a0 : Nat))) (g1 : c[o + 1]? = some (.int .u8 (a1 : Nat))) (g2 : c[o + 2]? = some (.int .u8 (a2 : Nat))) (g3 : c[o + 3]? = some (.int .u8 (a3 : Nat))) : Exact S.cfg 121 [.slice b o n m] h (.int .u32 (wordF a0 a1 a2 a3)) := by
  refine into Tryz.f121 _ Tryz.func121 (hS.ownH _ (by decide)) rfl rfl (by kernel_rfl) (by kernel_rfl) ?_
  have k0 : 0 < n := by omega
  have k1 : 1 < n := by omega
  have k2 : 2 < n := by omega
  have k3 : 3 < n := by omega
  simp +contextual (disch := first | (simp only [fr]; done) | omega | (simp only [Knx]; omega) | (apply Nat.le_antisymm <;> simp only [Knx] <;> omega) | exact dok (by kernel_rfl)) only [draw_calm, draw_calmA, wpy, fD, reduceLE, reduceLT, reduceLeDiff, UInt8.reduceToNat, ↓reduceIte, reduceEqDiff, reduceAdd, reduceCtorEq, reduceToNat, Tryz.f121, hg, g0, g1, g2, g3, k0, k1, k2, k3]
  rfl
def startL : List Int := [1779033703, 3144134277, 1013904242, 2773480762, 1359893119, 2600822924, 528734635, 1541459225]
omit hS in
theorem ne21 : ((2 : Int) = 1) = False := by decide
omit hS in
theorem ne21n : ((2 : Nat) = 1) = False := by decide
theorem starts_spec (h : H) : Pure S.cfg 101 [.int .i64 2] h fun v _ => v = .agg (startL.map (V.int .u32)) := by
  refine into Tryz.f101 _ Tryz.func101 (hS.ownH _ (by decide)) rfl rfl (by kernel_rfl) (by kernel_rfl) ?_
  simp +contextual (disch := first | (simp only [fr]; done) | omega | (simp only [Knx]; omega) | (apply Nat.le_antisymm <;> simp only [Knx] <;> omega) | fail) only [wpy, fD, reduceLE, reduceLT, reduceLeDiff, UInt8.reduceToNat, ↓reduceIte, reduceEqDiff, reduceAdd, reduceCtorEq, reduceToNat, Tryz.f101, ne21, ne21n]
  exact ⟨Ext.new _ _ _, rfl⟩
theorem none_spec (b : Nat) (k : Int) (c : List V) (e : TypeId) (h : H) (hk : ¬ k = 0) (hg : h.get b = some (.cells (.int .i64 k :: c) e false)) : Exact S.cfg 102 [.ptr b 0] h (bo False) := by
  refine into Tryz.f102 _ Tryz.func102 (hS.ownH _ (by decide)) rfl rfl (by kernel_rfl) (by kernel_rfl) ?_
  simp +contextual (disch := first | (simp only [fr]; done) | omega | (simp only [Knx]; omega) | (apply Nat.le_antisymm <;> simp only [Knx] <;> omega) | fail) only [wpy, fD, reduceLE, reduceLT, reduceLeDiff, UInt8.reduceToNat, ↓reduceIte, reduceEqDiff, reduceAdd, reduceCtorEq, reduceToNat, Tryz.f102, hg, hk]
theorem new_spec (h : H) : Pure S.cfg 80 [.int .i64 2] h fun v h' => ∃ b, v = .tuple [.ptr b 0, .int .i64 0] ∧ h.nx ≤ b ∧ b < h'.nx ∧ h'.get b = some (.cells (hashC startL (List.replicate 64 0) 0 0) 110 false) := by
  refine into Tryz.f80 _ Tryz.func80 (hS.ownH _ (by decide)) rfl rfl (by kernel_rfl) (by kernel_rfl) ?_
  simp +contextual (disch := first | (simp only [fr]; done) | omega | (simp only [Knx]; omega) | (apply Nat.le_antisymm <;> simp only [Knx] <;> omega) | fail) only [wpy, fD, reduceLE, reduceLT, reduceLeDiff, UInt8.reduceToNat, ↓reduceIte, reduceEqDiff, reduceAdd, reduceCtorEq, reduceToNat, Tryz.f80, ne21, ne21n]
  refine callF_pure (starts_spec hS _) ?_
  rintro v h1 hx rfl
  simp +contextual (disch := first | (simp only [fr]; done) | omega | (simp only [Knx]; omega) | (apply Nat.le_antisymm <;> simp only [Knx] <;> omega) | fail) only [wpy, fD, reduceLE, reduceLT, reduceLeDiff, UInt8.reduceToNat, ↓reduceIte, reduceEqDiff, reduceAdd, reduceCtorEq, reduceToNat, Tryz.f80, startL]
  exact ⟨hx.push _, h1.nx, rfl, hx.1, Nat.lt_succ_self _, by rw [push_eq rfl]; rfl⟩
theorem consts_spec (h : H) : Pure S.cfg 124 [] h fun v _ => v = .agg (KL.map (V.int .u32)) := by
  refine into Tryz.f124 _ Tryz.func124 (hS.ownH _ (by decide)) rfl rfl (by kernel_rfl) (by kernel_rfl) ?_
  simp +contextual (disch := first | (simp only [fr]; done) | omega | (simp only [Knx]; omega) | (apply Nat.le_antisymm <;> simp only [Knx] <;> omega) | fail) only [wpy, fD, reduceLE, reduceLT, reduceLeDiff, UInt8.reduceToNat, ↓reduceIte, reduceEqDiff, reduceAdd, reduceCtorEq, reduceToNat, Tryz.f124]
  exact ⟨Ext.new _ _ _, rfl⟩
end
end Go.Proofs.YtkibhdbmamfjcaaGreatDoor
set_option maxHeartbeats 1000000
set_option linter.unusedSimpArgs false
set_option linter.unusedVariables false
set_option linter.defProp false
set_option maxRecDepth 10000
namespace Go.Proofs.YtkibhdbmamfjcaaGreatDoor
open Int (reduceLE reduceLT reduceToNat)
open Nat (reduceLeDiff reduceEqDiff reduceAdd)
open Go.Proofs Go.Lx Go.Wx Go.IntWalk
noncomputable section
def ButS (r : Nat) (h h' : H) : Prop := h.nx ≤ h'.nx ∧ ∀ k, k < h.nx → k ≠ r → h'.get k = h.get k
theorem ButS.refl (r : Nat) (h : H) : ButS r h h := ⟨Nat.le_refl _, fun _ _ _ => rfl⟩
theorem ButS.trans {r : Nat} {a b c : H} (x : ButS r a b) (y : ButS r b c) : ButS r a c := ⟨Nat.le_trans x.1 y.1, fun k hk hr => by rw [y.2 k (Nat.lt_of_lt_of_le hk x.1) hr, x.2 k hk hr]⟩
theorem ButS.of_ext {r : Nat} {a b : H} (x : Ext a b) : ButS r a b := ⟨x.1, fun k hk _ => x.2 k hk⟩
theorem ButS.put {r : Nat} {a b : H} (x : ButS r a b) (o : Ob) : ButS r a (b.put r o) := ⟨x.1, fun k hk hr => by rw [put_get, if_neg hr, x.2 k hk hr]⟩
def Looks (n : Nat) : Fp → Prop
  | .lg l => ∀ e ∈ l, e.isW = false
  | .cl n0 n1 Ok => n0 = n ∧ n1 = n ∧ ∀ k, ¬ Ok k
theorem hits_look : ∀ {a b : List LE}, (∀ e ∈ a, e.isW = false) → (∀ e ∈ b, e.isW = false) → hitsL a b = false ∧ hitsL b a = false := by
  intro a b ha hb
  constructor
  · exact hitsL_reads ha
  · exact hitsL_reads hb
theorem looks_apart {n : Nat} {f g : Fp} (hf : Looks n f) (hg : Looks n g) : fpApart f g := by
  cases f with
  | lg a =>
    cases g with
    | lg b => exact hits_look hf hg
    | cl n0 n1 Ok =>
      obtain ⟨h1, h2, hk⟩ := hg
      exact fun e he => ⟨hf e he, by omega, hk _⟩
  | cl n0 n1 Ok =>
    obtain ⟨h1, h2, hk⟩ := hf
    cases g with
    | lg b => exact fun e he => (Nat.lt_or_ge (blkOf e) n0).elim (fun q => .inr ⟨hg e he, q, hk _⟩) fun q => .inl (by omega)
    | cl m0 m1 Ok' =>
      obtain ⟨h3, h4, hk'⟩ := hg
      exact ⟨by omega, hk, by omega, hk'⟩
theorem look_nil {n : Nat} : Looks n (.lg []) := fun e he => by cases he
theorem look_rd {n k o m : Nat} : Looks n (.lg [.rd k o m]) := fun e he => by rw [List.mem_singleton] at he; subst he; rfl
theorem look_cl {n : Nat} : Looks n (.cl n n nil1) := ⟨rfl, rfl, fun _ h => h⟩
theorem looks_pairs {n : Nat} {l : List Fp} (h : ∀ f ∈ l, Looks n f) (pairs : List (Nat × Nat)) : ∀ p ∈ pairs, ∀ a b, l[p.1]? = some a → l[p.2]? = some b → fpApart a b := fun p _ a b ha hb => looks_apart (h a (List.mem_of_getElem? ha)) (h b (List.mem_of_getElem? hb))

theorem idxOk_agg (d : Option TypeDesc) (P : Program) (t : TypeId) (cs : List V) (i : V) : idxOk d P t (.agg cs) i = okO (indexV P t (.agg cs) i) := by
  unfold idxOk
  split <;> first | rfl | (rename_i h; cases h)
theorem idxT_agg (P : Program) (t : TypeId) (cs : List V) (i : V) : idxT P t (.agg cs) i = getO' (indexV P t (.agg cs) i) := rfl
theorem wS_succ (rest : List Nat) (t : Nat) : wS rest (t + 1) = (wS rest t).set t (wv rest (wS rest t) t) := rfl
variable {S : Set0} (hS : StdH S)
include hS
set_option maxHeartbeats 4000000 in
theorem block2_spec (b : Nat) (ws : List Int) (rest : List Nat) (n all : Int) (h : H) (hw : ws.length = 8) (hr : rest.length = 64) (hrb : Bytes rest) (hb : b < h.nx) (hg : h.get b = some (.cells (hashC ws rest n all) 110 false)) : callW S.cfg (fun k => k = b) 115 [.ptr b 0] h fun v h' => v = .tuple [] ∧ ButS b h h' ∧ h'.get b = some (.cells (hashC (blkF ws rest) rest n all) 110 false) := by
  refine into Tryz.f115 _ Tryz.func115 (hS.ownH _ (by decide)) rfl rfl (by kernel_rfl) (by kernel_rfl) ?_
  have r1 : ∀ i, i < 64 → (hashC ws rest n all)[9 + i]? = some (.int .u8 (rest.getD i 0 : Nat)) := fun i hi => hashC_r hw hr hi
  have rb : ∀ i, rest.getD i 0 < 256 := fun i => by
    rw [List.getD_eq_getElem?_getD]
    by_cases hi : i < rest.length
    · rw [List.getElem?_eq_getElem hi]; exact hrb _ (List.getElem_mem hi)
    · rw [List.getElem?_eq_none (by omega)]; decide
  simp +contextual (disch := first | (simp only [fr]; done) | omega | (simp only [Knx]; omega) | (apply Nat.le_antisymm <;> simp only [Knx] <;> omega) | fail) only [wpy, fD, reduceLE, reduceLT, reduceLeDiff, UInt8.reduceToNat, ↓reduceIte, reduceEqDiff, reduceAdd, reduceCtorEq, reduceToNat, Tryz.f115]
  refine run_loop (fun k env h' => ∃ t : Nat, k = 64 - t ∧ t ≤ 64 ∧ env 0 = .ptr b 0 ∧ env 2 = .ptr h.nx 0 ∧ env 20 = .int .i64 t ∧ h.nx < h'.nx ∧ Ext h h' ∧ h'.get h.nx = some (.cells ((wS rest t).map (V.int .u32)) 141 false)) 64 ⟨0, ?_⟩ ?_
  · simp +contextual (disch := first | (simp only [fr]; done) | omega | (simp only [Knx]; omega) | (apply Nat.le_antisymm <;> simp only [Knx] <;> omega) | fail) only [wpy, fD, reduceLE, reduceLT, reduceLeDiff, UInt8.reduceToNat, ↓reduceIte, reduceEqDiff, reduceAdd, reduceCtorEq, reduceToNat]
    exact ⟨by omega, (Ext.refl h).push _, by first | rfl | (rw [push_eq rfl]; rfl)⟩
  rintro k env h' ⟨t, rfl, ht, e0, e2, e20, hn, hx, hgw⟩
  have hgb : h'.get b = some (.cells (hashC ws rest n all) 110 false) := by rw [hx.2 b hb]; exact hg
  have wl := wS_len rest t
  by_cases ht2 : t < 64
  · by_cases ht3 : t < 16
    · have w4 : IntKind.i64.wrap (4 * (t : Int)) = ((4 * t : Nat) : Int) := by
        unfold IntKind.wrap
        simp [IntKind.signed, IntKind.bits]
        omega
      have hset : ∀ x, listPut ((wS rest t).map (V.int .u32)) t [.int .u32 x] = ((wS rest t).set t x).map (V.int .u32) := fun x => intsV_set wl ht2 x
      simp +contextual (disch := first | (simp only [fr]; done) | omega | (simp only [Knx]; omega) | (apply Nat.le_antisymm <;> simp only [Knx] <;> omega) | fail) only [wpy, fD, reduceLE, reduceLT, reduceLeDiff, UInt8.reduceToNat, ↓reduceIte, reduceEqDiff, reduceAdd, reduceCtorEq, reduceToNat, Tryz.f115, e0, e2, e20, ht2, ht3, hgb, hgw, w4]
      refine slice_array (e := 5) (sz := 1) (n := 64) (b := b) (o := 9) (l := 4 * t) (hh := 64) (m := 64) (by kernel_rfl) sz5 (by simp +contextual (disch := first | (simp only [fr]; done) | omega | (simp only [Knx]; omega) | (apply Nat.le_antisymm <;> simp only [Knx] <;> omega) | fail) only [wpy, fD, reduceLE, reduceLT, reduceLeDiff, UInt8.reduceToNat, ↓reduceIte, reduceEqDiff, reduceAdd, reduceCtorEq, reduceToNat]) (by simp +contextual (disch := first | (simp only [fr]; done) | omega | (simp only [Knx]; omega) | (apply Nat.le_antisymm <;> simp only [Knx] <;> omega) | fail) only [wpy, fD, reduceLE, reduceLT, reduceLeDiff, UInt8.reduceToNat, ↓reduceIte, reduceEqDiff, reduceAdd, reduceCtorEq, reduceToNat]; exact bounds_lo (by omega) (Nat.le_refl _)) ?_
      simp +contextual (disch := first | (simp only [fr]; done) | omega | (simp only [Knx]; omega) | (apply Nat.le_antisymm <;> simp only [Knx] <;> omega) | fail) only [wpy, fD, reduceLE, reduceLT, reduceLeDiff, UInt8.reduceToNat, ↓reduceIte, reduceEqDiff, reduceAdd, reduceCtorEq, reduceToNat, Tryz.f115, e0, e2, e20, ht2, ht3]
      refine callF_exact (word_spec hS b (9 + 4 * t) _ _ (rest.getD (4 * t) 0) (rest.getD (4 * t + 1) 0) (rest.getD (4 * t + 2) 0) (rest.getD (4 * t + 3) 0) _ _ _ h' (by omega) (rb _) (rb _) (rb _) (rb _) hgb (r1 _ (by omega)) (by rw [Nat.add_assoc]; exact r1 _ (by omega)) (by rw [Nat.add_assoc]; exact r1 _ (by omega)) (by rw [Nat.add_assoc]; exact r1 _ (by omega))) ?_
      simp +contextual (disch := first | (simp only [fr]; done) | omega | (simp only [Knx]; omega) | (apply Nat.le_antisymm <;> simp only [Knx] <;> omega) | fail) only [wpy, fD, reduceLE, reduceLT, reduceLeDiff, UInt8.reduceToNat, ↓reduceIte, reduceEqDiff, reduceAdd, reduceCtorEq, reduceToNat, Tryz.f115, e0, e2, e20, ht2, ht3, hgw, List.length_map, wl, hset]
      exact ⟨by omega, _, by omega, t + 1, rfl, by omega, rfl, hn, hx.put (Nat.le_refl _) _, by rw [wS, wv, if_pos ht3]⟩
    · obtain ⟨q, rfl⟩ : ∃ q, t = q + 16 := ⟨t - 16, by omega⟩
      have q0 : q < 64 := by omega
      have q1 : q + 1 < 64 := by omega
      have q9 : q + 9 < 64 := by omega
      have q14 : q + 14 < 64 := by omega
      have g0 := intsV_get wl q0
      have g1 := intsV_get wl q1
      have g9 := intsV_get wl q9
      have g14 := intsV_get wl q14
      have z15 : IntKind.i64.wrap (((q + 16 : Nat) : Int) - 15) = ((q + 1 : Nat) : Int) := sub_i (q + 16) 15 (by omega) (by omega)
      have z2 : IntKind.i64.wrap (((q + 16 : Nat) : Int) - 2) = ((q + 14 : Nat) : Int) := sub_i (q + 16) 2 (by omega) (by omega)
      have z7 : IntKind.i64.wrap (((q + 16 : Nat) : Int) - 7) = ((q + 9 : Nat) : Int) := sub_i (q + 16) 7 (by omega) (by omega)
      have z16 : IntKind.i64.wrap (((q + 16 : Nat) : Int) - 16) = ((q : Nat) : Int) := sub_i (q + 16) 16 (by omega) (by omega)
      have hset : ∀ x, listPut ((wS rest (q + 16)).map (V.int .u32)) (q + 16) [.int .u32 x] = ((wS rest (q + 16)).set (q + 16) x).map (V.int .u32) := fun x => intsV_set wl ht2 x
      simp +contextual (disch := first | (simp only [fr]; done) | omega | (simp only [Knx]; omega) | (apply Nat.le_antisymm <;> simp only [Knx] <;> omega) | fail) only [wpy, fD, reduceLE, reduceLT, reduceLeDiff, UInt8.reduceToNat, ↓reduceIte, reduceEqDiff, reduceAdd, reduceCtorEq, reduceToNat, Tryz.f115, e0, e2, e20, ht2, ht3]
      refine draw_by [(3, 9), (4, 8), (4, 14), (9, 14)] (by kernel_rfl) ?_
      simp +contextual (disch := first | (simp only [fr]; done) | omega | (simp only [Knx]; omega) | (apply Nat.le_antisymm <;> simp only [Knx] <;> omega) | fail) only [wpy, fD, reduceLE, reduceLT, reduceLeDiff, UInt8.reduceToNat, ↓reduceIte, reduceEqDiff, reduceAdd, reduceCtorEq, reduceToNat, Tryz.f115, e0, e2, e20, ht2, ht3, hgw, g1, q1, z15]
      refine callF_exact (ror_spec hS _ _ _) ?_
      simp +contextual (disch := first | (simp only [fr]; done) | omega | (simp only [Knx]; omega) | (apply Nat.le_antisymm <;> simp only [Knx] <;> omega) | fail) only [wpy, fD, reduceLE, reduceLT, reduceLeDiff, UInt8.reduceToNat, ↓reduceIte, reduceEqDiff, reduceAdd, reduceCtorEq, reduceToNat, Tryz.f115, e0, e2, e20, ht2, ht3, hgw, g1, q1, z15]
      refine callF_exact (ror_spec hS _ _ _) ?_
      simp +contextual (disch := first | (simp only [fr]; done) | omega | (simp only [Knx]; omega) | (apply Nat.le_antisymm <;> simp only [Knx] <;> omega) | fail) only [wpy, fD, reduceLE, reduceLT, reduceLeDiff, UInt8.reduceToNat, ↓reduceIte, reduceEqDiff, reduceAdd, reduceCtorEq, reduceToNat, Tryz.f115, e0, e2, e20, ht2, ht3, hgw, g1, q1, z15]
      refine ⟨looks_pairs (n := h'.nx) (by
        repeat (refine List.forall_mem_cons.2 ⟨by first | exact look_nil | exact look_rd | exact look_cl, ?_⟩)
        intro f hf
        cases hf) _, ?_⟩
      refine draw_by [(3, 9), (4, 8), (4, 14), (9, 14)] (by kernel_rfl) ?_
      simp +contextual (disch := first | (simp only [fr]; done) | omega | (simp only [Knx]; omega) | (apply Nat.le_antisymm <;> simp only [Knx] <;> omega) | fail) only [wpy, fD, reduceLE, reduceLT, reduceLeDiff, UInt8.reduceToNat, ↓reduceIte, reduceEqDiff, reduceAdd, reduceCtorEq, reduceToNat, Tryz.f115, e0, e2, e20, ht2, ht3, hgw, g14, q14, z2]
      refine callF_exact (ror_spec hS _ _ _) ?_
      simp +contextual (disch := first | (simp only [fr]; done) | omega | (simp only [Knx]; omega) | (apply Nat.le_antisymm <;> simp only [Knx] <;> omega) | fail) only [wpy, fD, reduceLE, reduceLT, reduceLeDiff, UInt8.reduceToNat, ↓reduceIte, reduceEqDiff, reduceAdd, reduceCtorEq, reduceToNat, Tryz.f115, e0, e2, e20, ht2, ht3, hgw, g14, q14, z2]
      refine callF_exact (ror_spec hS _ _ _) ?_
      simp +contextual (disch := first | (simp only [fr]; done) | omega | (simp only [Knx]; omega) | (apply Nat.le_antisymm <;> simp only [Knx] <;> omega) | fail) only [wpy, fD, reduceLE, reduceLT, reduceLeDiff, UInt8.reduceToNat, ↓reduceIte, reduceEqDiff, reduceAdd, reduceCtorEq, reduceToNat, Tryz.f115, e0, e2, e20, ht2, ht3, hgw, g14, q14, z2]
      refine ⟨looks_pairs (n := h'.nx) (by
        repeat (refine List.forall_mem_cons.2 ⟨by first | exact look_nil | exact look_rd | exact look_cl, ?_⟩)
        intro f hf
        cases hf) _, ?_⟩
      simp +contextual (disch := first | (simp only [fr]; done) | omega | (simp only [Knx]; omega) | (apply Nat.le_antisymm <;> simp only [Knx] <;> omega) | exact dok (by kernel_rfl)) only [draw_calm, draw_calmA, wpy, fD, reduceLE, reduceLT, reduceLeDiff, UInt8.reduceToNat, ↓reduceIte, reduceEqDiff, reduceAdd, reduceCtorEq, reduceToNat, Tryz.f115, e0, e2, e20, ht2, ht3, hgw, g0, g9, q0, q9, z7, z16, List.length_map, wl, hset]
      exact ⟨by omega, _, by omega, q + 16 + 1, rfl, by omega, rfl, hn, hx.put (Nat.le_refl _) _, by rw [wS_succ rest (q + 16), wv, if_neg ht3]; rfl⟩
  · obtain rfl : t = 64 := by omega
    have hcl := hashC_len hw hr (n := n) (all := all)
    have hc9 : 9 ≤ (hashC ws rest n all).length := by omega
    have hcw := hashC_words hw hr (n := n) (all := all)
    have hwm : (ws.map (V.int .u32)).length = 8 := by simp [hw]
    have hall : (ws.map (V.int .u32)).all V.isCell = true := by simp [V.isCell]
    have hpa : listPut [V.int .u32 0, .int .u32 0, .int .u32 0, .int .u32 0, .int .u32 0, .int .u32 0, .int .u32 0, .int .u32 0] 0 (ws.map (V.int .u32)) = ws.map (V.int .u32) := listPut_all _ _ (by rw [hwm]; rfl)
    simp +contextual (disch := first | (simp only [fr]; done) | omega | (simp only [Knx]; omega) | (apply Nat.le_antisymm <;> simp only [Knx] <;> omega) | fail) only [wpy, fD, reduceLE, reduceLT, reduceLeDiff, UInt8.reduceToNat, ↓reduceIte, reduceEqDiff, reduceAdd, reduceCtorEq, reduceToNat, Tryz.f115, e0, e2, e20, ht2, hgb, hgw, hc9, hcw, hwm, hall, hpa]
    refine ⟨.inr (.inl (by omega)), ?_⟩
    refine callF_pure (consts_spec hS _) ?_
    rintro v h3 hx3 rfl
    have hX3 : Ext h h3 := (hx.trans (Ext.new _ _ _)).trans hx3
    have hn3 : h'.nx + 1 ≤ h3.nx := hx3.1
    have ga3 : h3.get h'.nx = some (.cells (ws.map (V.int .u32)) 106 false) := by rw [hx3.2 h'.nx (Nat.lt_succ_self _), put_eq rfl]
    have gw3 : h3.get h.nx = some (.cells ((wS rest 64).map (V.int .u32)) 141 false) := by rw [hx3.2 h.nx (by show h.nx < h'.nx + 1; omega), put_ne (by omega), push_ne (by omega)]; exact hgw
    have gb3 : h3.get b = some (.cells (hashC ws rest n all) 110 false) := by rw [hX3.2 b hb]; exact hg
    have hkl : (KL.map (V.int .u32)).length = 64 := rfl
    have hkc : (KL.map (V.int .u32)).all V.isCell = true := rfl
    simp +contextual (disch := first | (simp only [fr]; done) | omega | (simp only [Knx]; omega) | (apply Nat.le_antisymm <;> simp only [Knx] <;> omega) | fail) only [wpy, fD, reduceLE, reduceLT, reduceLeDiff, UInt8.reduceToNat, ↓reduceIte, reduceEqDiff, reduceAdd, reduceCtorEq, reduceToNat, Tryz.f115, e0, e2, e20, hkl, hkc]
    generalize hW : wS rest 64 = W at *
    have hWl : W.length = 64 := by rw [← hW]; exact wS_len rest 64
    have hblk : blkF ws rest = aS ws (vS W ws 64) 8 := by rw [blkF, hW]
    refine ⟨.inr (.inl (by omega)), run_loop (fun k env2 h2 => ∃ t : Nat, k = 64 - t ∧ t ≤ 64 ∧ env2 0 = .ptr b 0 ∧ env2 2 = .ptr h.nx 0 ∧ env2 6 = .ptr h'.nx 0 ∧ env2 7 = .ptr h3.nx 0 ∧ env2 89 = .int .i64 t ∧ h3.nx < h2.nx ∧ Ext h h2 ∧ h2.get h.nx = some (.cells (W.map (V.int .u32)) 141 false) ∧ h2.get h'.nx = some (.cells ((vS W ws t).map (V.int .u32)) 106 false) ∧ h2.get h3.nx = some (.cells (KL.map (V.int .u32)) 141 false)) 64 ⟨0, ?_⟩ ?_⟩
    · simp +contextual (disch := first | (simp only [fr]; done) | omega | (simp only [Knx]; omega) | (apply Nat.le_antisymm <;> simp only [Knx] <;> omega) | fail) only [wpy, fD, reduceLE, reduceLT, reduceLeDiff, UInt8.reduceToNat, ↓reduceIte, reduceEqDiff, reduceAdd, reduceCtorEq, reduceToNat, e0, e2, gw3, ga3]
      exact ⟨Nat.lt_succ_self _, (hX3.push _).put hX3.1 _, rfl, by rw [listPut_all]; rfl⟩
    rintro k env2 h2 ⟨t, rfl, ht, f0, f2, f6, f7, f89, hn2, hx2, gw2, gv2, gk2⟩
    have vl := vS_len (W := W) (ws := ws) hw t
    by_cases ht2 : t < 64
    · have i0 := intsV_get vl (show 0 < 8 by decide)
      have i1 := intsV_get vl (show 1 < 8 by decide)
      have i2 := intsV_get vl (show 2 < 8 by decide)
      have i3 := intsV_get vl (show 3 < 8 by decide)
      have i4 := intsV_get vl (show 4 < 8 by decide)
      have i5 := intsV_get vl (show 5 < 8 by decide)
      have i6 := intsV_get vl (show 6 < 8 by decide)
      have i7 := intsV_get vl (show 7 < 8 by decide)
      have ik := intsV_get (l := KL) rfl ht2
      have iw := intsV_get hWl ht2
      have d0 : (0 : Nat) < 8 := by decide
      have d1 : (1 : Nat) < 8 := by decide
      have d2 : (2 : Nat) < 8 := by decide
      have d3 : (3 : Nat) < 8 := by decide
      have d4 : (4 : Nat) < 8 := by decide
      have d5 : (5 : Nat) < 8 := by decide
      have d6 : (6 : Nat) < 8 := by decide
      have d7 : (7 : Nat) < 8 := by decide
      have hpa2 : ∀ l2 : List V, l2.length = 8 → listPut ((vS W ws t).map (V.int .u32)) 0 l2 = l2 := fun l2 h8 => listPut_all _ _ (by rw [List.length_map, vl, h8])
      simp +contextual (disch := first | (simp only [fr]; done) | omega | (simp only [Knx]; omega) | (apply Nat.le_antisymm <;> simp only [Knx] <;> omega) | fail) only [wpy, fD, reduceLE, reduceLT, reduceLeDiff, UInt8.reduceToNat, ↓reduceIte, reduceEqDiff, reduceAdd, reduceCtorEq, reduceToNat, Tryz.f115, f0, f2, f6, f7, f89, ht2, gv2, gw2, gk2, i0, i1, i2, i3, i4, i5, i6, i7, ik, iw, d0, d1, d2, d3, d4, d5, d6, d7]
      refine draw_by [] (by kernel_rfl) ?_
      simp +contextual (disch := first | (simp only [fr]; done) | omega | (simp only [Knx]; omega) | (apply Nat.le_antisymm <;> simp only [Knx] <;> omega) | fail) only [wpy, fD, reduceLE, reduceLT, reduceLeDiff, UInt8.reduceToNat, ↓reduceIte, reduceEqDiff, reduceAdd, reduceCtorEq, reduceToNat, Tryz.f115, f0, f2, f6, f7, f89, ht2, gv2, gw2, gk2, i0, i1, i2, i3, i4, i5, i6, i7, ik, iw, d0, d1, d2, d3, d4, d5, d6, d7]
      refine ⟨(by intro p hp; cases hp), ?_⟩
      refine draw_by [(1, 3), (1, 5), (1, 8), (3, 22), (5, 22), (8, 22), (3, 26), (5, 26), (8, 26)] (by kernel_rfl) ?_
      simp +contextual (disch := first | (simp only [fr]; done) | omega | (simp only [Knx]; omega) | (apply Nat.le_antisymm <;> simp only [Knx] <;> omega) | fail) only [wpy, fD, reduceLE, reduceLT, reduceLeDiff, UInt8.reduceToNat, ↓reduceIte, reduceEqDiff, reduceAdd, reduceCtorEq, reduceToNat, Tryz.f115, f0, f2, f6, f7, f89, ht2, gv2, gw2, gk2, i0, i1, i2, i3, i4, i5, i6, i7, ik, iw, d0, d1, d2, d3, d4, d5, d6, d7]
      refine callF_exact (ror_spec hS _ _ _) ?_
      simp +contextual (disch := first | (simp only [fr]; done) | omega | (simp only [Knx]; omega) | (apply Nat.le_antisymm <;> simp only [Knx] <;> omega) | fail) only [wpy, fD, reduceLE, reduceLT, reduceLeDiff, UInt8.reduceToNat, ↓reduceIte, reduceEqDiff, reduceAdd, reduceCtorEq, reduceToNat, Tryz.f115, f0, f2, f6, f7, f89, ht2, gv2, gw2, gk2, i0, i1, i2, i3, i4, i5, i6, i7, ik, iw, d0, d1, d2, d3, d4, d5, d6, d7]
      refine callF_exact (ror_spec hS _ _ _) ?_
      simp +contextual (disch := first | (simp only [fr]; done) | omega | (simp only [Knx]; omega) | (apply Nat.le_antisymm <;> simp only [Knx] <;> omega) | fail) only [wpy, fD, reduceLE, reduceLT, reduceLeDiff, UInt8.reduceToNat, ↓reduceIte, reduceEqDiff, reduceAdd, reduceCtorEq, reduceToNat, Tryz.f115, f0, f2, f6, f7, f89, ht2, gv2, gw2, gk2, i0, i1, i2, i3, i4, i5, i6, i7, ik, iw, d0, d1, d2, d3, d4, d5, d6, d7]
      refine callF_exact (ror_spec hS _ _ _) ?_
      simp +contextual (disch := first | (simp only [fr]; done) | omega | (simp only [Knx]; omega) | (apply Nat.le_antisymm <;> simp only [Knx] <;> omega) | fail) only [wpy, fD, reduceLE, reduceLT, reduceLeDiff, UInt8.reduceToNat, ↓reduceIte, reduceEqDiff, reduceAdd, reduceCtorEq, reduceToNat, Tryz.f115, f0, f2, f6, f7, f89, ht2, gv2, gw2, gk2, i0, i1, i2, i3, i4, i5, i6, i7, ik, iw, d0, d1, d2, d3, d4, d5, d6, d7]
      refine ⟨looks_pairs (n := h2.nx) (by
        repeat (refine List.forall_mem_cons.2 ⟨by first | exact look_nil | exact look_rd | exact look_cl, ?_⟩)
        intro f hf
        cases hf) _, ?_⟩
      refine callF_exact (ror_spec hS _ _ _) ?_
      simp +contextual (disch := first | (simp only [fr]; done) | omega | (simp only [Knx]; omega) | (apply Nat.le_antisymm <;> simp only [Knx] <;> omega) | fail) only [wpy, fD, reduceLE, reduceLT, reduceLeDiff, UInt8.reduceToNat, ↓reduceIte, reduceEqDiff, reduceAdd, reduceCtorEq, reduceToNat, Tryz.f115, f0, f2, f6, f7, f89, ht2, gv2, gw2, gk2, i0, i1, i2, i3, i4, i5, i6, i7, ik, iw, d0, d1, d2, d3, d4, d5, d6, d7]
      refine callF_exact (ror_spec hS _ _ _) ?_
      simp +contextual (disch := first | (simp only [fr]; done) | omega | (simp only [Knx]; omega) | (apply Nat.le_antisymm <;> simp only [Knx] <;> omega) | fail) only [wpy, fD, reduceLE, reduceLT, reduceLeDiff, UInt8.reduceToNat, ↓reduceIte, reduceEqDiff, reduceAdd, reduceCtorEq, reduceToNat, Tryz.f115, f0, f2, f6, f7, f89, ht2, gv2, gw2, gk2, i0, i1, i2, i3, i4, i5, i6, i7, ik, iw, d0, d1, d2, d3, d4, d5, d6, d7]
      refine callF_exact (ror_spec hS _ _ _) ?_
      simp +contextual (disch := first | (simp only [fr]; done) | omega | (simp only [Knx]; omega) | (apply Nat.le_antisymm <;> simp only [Knx] <;> omega) | fail) only [wpy, fD, reduceLE, reduceLT, reduceLeDiff, UInt8.reduceToNat, ↓reduceIte, reduceEqDiff, reduceAdd, reduceCtorEq, reduceToNat, Tryz.f115, f0, f2, f6, f7, f89, ht2, gv2, gw2, gk2, i0, i1, i2, i3, i4, i5, i6, i7, ik, iw, d0, d1, d2, d3, d4, d5, d6, d7]
      exact ⟨⟨by rw [List.length_map, vl]; exact Nat.le_refl _, .inr (.inl hx.1)⟩, _, by omega, t + 1, rfl, by omega, rfl, hn2, hx2.put hx.1 _, by rw [hpa2 _ rfl]; rfl⟩
    · obtain rfl : t = 64 := by omega
      have htk : List.take 8 ((vS W ws 64).map (V.int .u32)) = (vS W ws 64).map (V.int .u32) := List.take_of_length_le (by rw [List.length_map, vl]; exact Nat.le_refl _)
      have hvm : ((vS W ws 64).map (V.int .u32)).length = 8 := by rw [List.length_map, vl]
      have h88 : (8 : Nat) ≤ 8 := Nat.le_refl _
      simp +contextual (disch := first | (simp only [fr]; done) | omega | (simp only [Knx]; omega) | (apply Nat.le_antisymm <;> simp only [Knx] <;> omega) | fail) only [wpy, fD, reduceLE, reduceLT, reduceLeDiff, UInt8.reduceToNat, ↓reduceIte, reduceEqDiff, reduceAdd, reduceCtorEq, reduceToNat, Tryz.f115, f0, f2, f6, f7, f89, ht2, gv2, hvm, htk, h88]
      rw [hblk]
      generalize vS W ws 64 = v at *
      have gb2 : h2.get b = some (.cells (hashC ws rest n all) 110 false) := by rw [hx2.2 b hb]; exact hg
      refine run_loop (fun k env3 h4 => ∃ i : Nat, k = 8 - i ∧ i ≤ 8 ∧ env3 0 = .ptr b 0 ∧ env3 168 = .agg (v.map (V.int .u32)) ∧ env3 169 = .int .i64 i ∧ ButS b h h4 ∧ h4.get b = some (.cells (hashC (aS ws v i) rest n all) 110 false)) 8 ⟨0, ?_⟩ ?_
      · simp +contextual (disch := first | (simp only [fr]; done) | omega | (simp only [Knx]; omega) | (apply Nat.le_antisymm <;> simp only [Knx] <;> omega) | fail) only [wpy, fD, reduceLE, reduceLT, reduceLeDiff, UInt8.reduceToNat, ↓reduceIte, reduceEqDiff, reduceAdd, reduceCtorEq, reduceToNat, f0]
        exact ⟨.of_ext hx2, gb2⟩
      rintro k env3 h4 ⟨i, rfl, hi, k0, k168, k169, hx4, gb4⟩
      have al := aS_len hw (v := v) i
      by_cases hi2 : i < 8
      · have hix : indexV Tryz.prog 106 (.agg (v.map (V.int .u32))) (.int .i64 (i : Nat)) = some (.int .u32 (v.getD i 0)) := index_array (n := 8) (e := 56) (d := .int .u32) (by kernel_rfl) (by kernel_rfl) rfl (by kernel_rfl) hi2 (intsV_get vl hi2)
        have hgw := hashC_w al hr (n := n) (all := all) hi2
        have hsw : ∀ x, listPut (hashC (aS ws v i) rest n all) (1 + i) [.int .u32 x] = hashC ((aS ws v i).set i x) rest n all := fun x => hashC_set_w al hr hi2 x
        have hcl := hashC_len al hr (n := n) (all := all)
        have hle : 1 + i + 1 ≤ 75 := by omega
        simp +contextual (disch := first | (simp only [fr]; done) | omega | (simp only [Knx]; omega) | (apply Nat.le_antisymm <;> simp only [Knx] <;> omega) | fail) only [wpy, fD, reduceLE, reduceLT, reduceLeDiff, UInt8.reduceToNat, ↓reduceIte, reduceEqDiff, reduceAdd, reduceCtorEq, reduceToNat, Tryz.f115, k0, k168, k169, hi2, idxOk_agg, idxT_agg, hix]
        refine draw_by [] (by kernel_rfl) ?_
        simp +contextual (disch := first | (simp only [fr]; done) | omega | (simp only [Knx]; omega) | (apply Nat.le_antisymm <;> simp only [Knx] <;> omega) | fail) only [wpy, fD, reduceLE, reduceLT, reduceLeDiff, UInt8.reduceToNat, ↓reduceIte, reduceEqDiff, reduceAdd, reduceCtorEq, reduceToNat, Tryz.f115, k0, k168, k169, hi2, gb4, hgw, hsw, hcl, hle]
        exact ⟨(by intro p hp; cases hp), _, by omega, i + 1, rfl, by omega, rfl, hx4.put _, rfl⟩
      · obtain rfl : i = 8 := by omega
        simp +contextual (disch := first | (simp only [fr]; done) | omega | (simp only [Knx]; omega) | (apply Nat.le_antisymm <;> simp only [Knx] <;> omega) | fail) only [wpy, fD, reduceLE, reduceLT, reduceLeDiff, UInt8.reduceToNat, ↓reduceIte, reduceEqDiff, reduceAdd, reduceCtorEq, reduceToNat, Tryz.f115, k0, k168, k169, hi2]
        exact ⟨hx4, gb4⟩
end
end Go.Proofs.YtkibhdbmamfjcaaGreatDoor
set_option maxHeartbeats 1000000
set_option linter.unusedSimpArgs false
set_option linter.unusedVariables false
set_option linter.defProp false
set_option maxRecDepth 10000
namespace Go.Proofs.YtkibhdbmamfjcaaGreatDoor
open Int (reduceLE reduceLT reduceToNat)
open Nat (reduceLeDiff reduceEqDiff reduceAdd)
open Go.Proofs Go.Lx Go.Wx Go.IntWalk
noncomputable section
structure SH where
  ws : List Int
  rest : List Nat
  n : Nat
def add1 (s : SH) (c : Nat) : SH := if s.n + 1 < 64 then ⟨s.ws, s.rest.set s.n c, s.n + 1⟩ else ⟨blkF s.ws (s.rest.set s.n c), s.rest.set s.n c, 0⟩
def addF (s : SH) (l : List Nat) : SH := l.foldl add1 s
def SH.ok (s : SH) : Prop := s.ws.length = 8 ∧ s.rest.length = 64 ∧ Bytes s.rest ∧ s.n < 64
def SH.cells (s : SH) (all : Int) : List V := hashC s.ws s.rest s.n all
theorem bytes_set {l : List Nat} (h : Bytes l) (i c : Nat) (hc : c < 256) : Bytes (l.set i c) := by
  intro x hx
  rcases List.mem_or_eq_of_mem_set hx with hx | rfl
  · exact h x hx
  · exact hc
theorem add1_ok {s : SH} (h : s.ok) {c : Nat} (hc : c < 256) : (add1 s c).ok := by
  obtain ⟨h1, h2, h3, h4⟩ := h
  have hb := bytes_set h3 s.n c hc
  unfold add1
  split
  · exact ⟨h1, by rw [List.length_set]; exact h2, hb, by assumption⟩
  · exact ⟨blkF_len h1, by show (s.rest.set s.n c).length = 64; rw [List.length_set]; exact h2, hb, by show 0 < 64; decide⟩
theorem addF_ok : ∀ {l : List Nat} {s : SH}, s.ok → Bytes l → (addF s l).ok
  | [], s, h, hb => h
  | c :: l, s, h, hb => addF_ok (l := l) (s := add1 s c) (add1_ok h (hb c List.mem_cons_self)) fun x hx => hb x (List.mem_cons_of_mem _ hx)
theorem addF_step {s : SH} {l : List Nat} {i : Nat} (hi : i < l.length) : addF s (l.take (i + 1)) = add1 (addF s (l.take i)) l[i] := by
  rw [addF, List.take_succ_eq_append_getElem hi, List.foldl_append]
  rfl
theorem eq_self' {α : Type} (a : α) : (a = a) = True := eq_self a

variable {S : Set0} (hS : StdH S)
include hS
set_option maxHeartbeats 4000000 in
theorem add_spec (r b o m : Nat) (l : List Nat) (s : SH) (all : Int) (c : List V) (e : TypeId) (fl : Bool) (h : H) (hok : s.ok) (hl : Bytes l) (hll : l.length < 2 ^ 40) (hr : r < h.nx) (hb : b < h.nx) (hbr : b ≠ r) (hg : h.get r = some (.cells (s.cells all) 110 false)) (hgb : h.get b = some (.cells c e fl)) (hc : ∀ i (hi : i < l.length), c[o + i]? = some (.int .u8 (l[i] : Nat))) : callW S.cfg (fun k => k = r) 103 [.ptr r 0, .slice b o l.length m] h fun v h' => v = .tuple [] ∧ ButS r h h' ∧ h'.get r = some (.cells ((addF s l).cells all) 110 false) := by
  refine into Tryz.f103 _ Tryz.func103 (hS.ownH _ (by decide)) rfl rfl (by kernel_rfl) (by kernel_rfl) ?_
  simp +contextual (disch := first | (simp only [fr]; done) | omega | (simp only [Knx]; omega) | (apply Nat.le_antisymm <;> simp only [Knx] <;> omega) | fail) only [wpy, fD, reduceLE, reduceLT, reduceLeDiff, UInt8.reduceToNat, ↓reduceIte, reduceEqDiff, reduceAdd, reduceCtorEq, reduceToNat, Tryz.f103]
  refine run_loop (fun k env h' => ∃ i : Nat, k = l.length - i ∧ i ≤ l.length ∧ env 0 = .ptr r 0 ∧ env 6 = .slice b o l.length m ∧ env 7 = .int .i64 l.length ∧ env 8 = .int .i64 i ∧ ButS r h h' ∧ h'.get r = some (.cells ((addF s (l.take i)).cells all) 110 false)) l.length ⟨0, ?_⟩ ?_
  · simp +contextual (disch := first | (simp only [fr]; done) | omega | (simp only [Knx]; omega) | (apply Nat.le_antisymm <;> simp only [Knx] <;> omega) | fail) only [wpy, fD, reduceLE, reduceLT, reduceLeDiff, UInt8.reduceToNat, ↓reduceIte, reduceEqDiff, reduceAdd, reduceCtorEq, reduceToNat]
    exact ⟨by simp, .refl _ _, hg⟩
  rintro k env h' ⟨i, rfl, hi, e0, e6, e7, e8, hx, hgr⟩
  have hgb' : h'.get b = some (.cells c e fl) := by rw [hx.2 b hb hbr]; exact hgb
  by_cases hi2 : i < l.length
  · have hci := hc i hi2
    have hst := addF_step (s := s) hi2
    have hok' : (addF s (l.take i)).ok := addF_ok hok fun x hx => hl x (List.mem_of_mem_take hx)
    have hl256 : l[i] < 256 := hl _ (List.getElem_mem hi2)
    generalize addF s (l.take i) = s1 at *
    generalize l[i] = x at *
    obtain ⟨h1, h2, h3, h4⟩ := hok'
    rw [SH.cells] at hgr
    have hn64 : (s1.n : Int).toNat = s1.n := rfl
    have h2' : (s1.rest.set s1.n x).length = 64 := by rw [List.length_set]; exact h2
    have gn : ∀ n' : Int, (hashC s1.ws s1.rest n' all)[73]? = some (.int .i64 n') := fun n' => hashC_n h1 h2
    have gn' : ∀ n' : Int, (hashC s1.ws (s1.rest.set s1.n x) n' all)[73]? = some (.int .i64 n') := fun n' => hashC_n h1 h2'
    have sr : listPut (hashC s1.ws s1.rest s1.n all) (9 + s1.n) [.int .u8 (x : Nat)] = hashC s1.ws (s1.rest.set s1.n x) s1.n all := hashC_set_r h1 h2 h4 x
    have sn' : ∀ n0 n' : Int, listPut (hashC s1.ws (s1.rest.set s1.n x) n0 all) 73 [.int .i64 n'] = hashC s1.ws (s1.rest.set s1.n x) n' all := fun n0 n' => hashC_set_n h1 h2' n'
    have l1 : ∀ n0 : Int, (hashC s1.ws s1.rest n0 all).length = 75 := fun n0 => hashC_len h1 h2
    have l1' : ∀ n0 : Int, (hashC s1.ws (s1.rest.set s1.n x) n0 all).length = 75 := fun n0 => hashC_len h1 h2'
    have k0 : ∀ n0 : Int, (hashC s1.ws (s1.rest.set s1.n x) n0 all)[0]? = some (.int .i64 2) := fun n0 => rfl
    have q9 : 9 + s1.n + 1 ≤ 75 := by omega
    simp +contextual (disch := first | (simp only [fr]; done) | omega | (simp only [Knx]; omega) | (apply Nat.le_antisymm <;> simp only [Knx] <;> omega) | fail) only [wpy, fD, reduceLE, reduceLT, reduceLeDiff, UInt8.reduceToNat, ↓reduceIte, reduceEqDiff, reduceAdd, reduceCtorEq, reduceToNat, Tryz.f103, e0, e6, e7, e8, hi2, hgb', hci]
    refine draw_by [] (by kernel_rfl) ?_
    simp +contextual (disch := first | (simp only [fr]; done) | omega | (simp only [Knx]; omega) | (apply Nat.le_antisymm <;> simp only [Knx] <;> omega) | fail) only [wpy, fD, reduceLE, reduceLT, reduceLeDiff, UInt8.reduceToNat, ↓reduceIte, reduceEqDiff, reduceAdd, reduceCtorEq, reduceToNat, Tryz.f103, e0, e6, e7, e8, hi2, hgr, gn, gn', sr, sn', l1, l1', h4, q9, eq_self']
    refine ⟨(by intro p hp; cases hp), ?_⟩
    refine ⟨fun hlt => ⟨_, by omega, i + 1, rfl, by omega, rfl, (hx.put _).put _, by rw [hst, add1, if_pos hlt]; rfl⟩, fun hge => ?_⟩
    simp +contextual (disch := first | (simp only [fr]; done) | omega | (simp only [Knx]; omega) | (apply Nat.le_antisymm <;> simp only [Knx] <;> omega) | fail) only [wpy, fD, reduceLE, reduceLT, reduceLeDiff, UInt8.reduceToNat, ↓reduceIte, reduceEqDiff, reduceAdd, reduceCtorEq, reduceToNat, Tryz.f103, k0, ne21, ne21n]
    refine callF_of (block2_spec hS r s1.ws (s1.rest.set s1.n x) 0 all _ h1 h2' (bytes_set h3 _ _ hl256) (Nat.lt_of_lt_of_le hr hx.1) (put_eq rfl)) (fun k q => by subst q; rw [fresh_def]; exact .inr rfl) ?_
    rintro v h5 ⟨rfl, hx5, hg5⟩
    simp +contextual (disch := first | (simp only [fr]; done) | omega | (simp only [Knx]; omega) | (apply Nat.le_antisymm <;> simp only [Knx] <;> omega) | fail) only [wpy, fD, reduceLE, reduceLT, reduceLeDiff, UInt8.reduceToNat, ↓reduceIte, reduceEqDiff, reduceAdd, reduceCtorEq, reduceToNat, Tryz.f103, e0, e6, e7, e8]
    exact ⟨_, by omega, i + 1, rfl, by omega, rfl, (((hx.put _).put _).put _).trans hx5, by rw [hst, add1, if_neg hge]; exact hg5⟩
  · have hle : i = l.length := by omega
    subst hle
    rw [List.take_length] at hgr
    simp +contextual (disch := first | (simp only [fr]; done) | omega | (simp only [Knx]; omega) | (apply Nat.le_antisymm <;> simp only [Knx] <;> omega) | fail) only [wpy, fD, reduceLE, reduceLT, reduceLeDiff, UInt8.reduceToNat, ↓reduceIte, reduceEqDiff, reduceAdd, reduceCtorEq, reduceToNat, Tryz.f103, e0, e6, e7, e8, hi2]
    first | exact ⟨hx, hgr⟩ | trace_state
end
end Go.Proofs.YtkibhdbmamfjcaaGreatDoor
set_option maxHeartbeats 1000000
set_option linter.unusedSimpArgs false
set_option linter.unusedVariables false
set_option linter.defProp false
set_option maxRecDepth 10000
namespace Go.Proofs.YtkibhdbmamfjcaaGreatDoor
open Int (reduceLE reduceLT reduceToNat)
open Nat (reduceLeDiff reduceEqDiff reduceAdd)
open Go.Proofs Go.Lx Go.Wx Go.IntWalk
noncomputable section

def padZ : Nat → SH → SH
  | 0, s => s
  | f + 1, s => if s.n = 56 then s else padZ f (add1 s 0)
def padM (s : SH) : Nat := if s.n ≤ 56 then 56 - s.n else 120 - s.n
theorem padM_lt {s : SH} (h : s.n < 64) (h5 : ¬ s.n = 56) : padM (add1 s 0) < padM s := by
  unfold padM add1
  split
  · show (if s.n + 1 ≤ 56 then 56 - (s.n + 1) else 120 - (s.n + 1)) < _
    split <;> split <;> omega
  · show (if 0 ≤ 56 then 56 - 0 else 120 - 0) < _
    rw [if_pos (by decide)]
    split <;> omega
def lenB (n i : Nat) : Nat := (IntKind.u8.wrap (iShr .u64 n (8 * i : Nat))).toNat
def lenF (s : SH) (n : Nat) : Nat → SH
  | 0 => s
  | j + 1 => add1 (lenF s n j) (lenB n (7 - j))
def outB (x : Int) : List Nat := [(IntKind.u8.wrap (iShr .u32 x 24)).toNat, (IntKind.u8.wrap (iShr .u32 x 16)).toNat, (IntKind.u8.wrap (iShr .u32 x 8)).toNat, (IntKind.u8.wrap x).toNat]
def outF (ws : List Int) : List Nat := ws.flatMap outB
def finF (s : SH) (all : Nat) : SH := lenF (padZ 65 (add1 s 128)) (all * 8) 8
def newS : SH := ⟨startL, List.replicate 64 0, 0⟩
def shaF (l : List Nat) : List Nat := outF (finF (addF newS l) l.length).ws
theorem wrap_u8 (z : Int) : 0 ≤ IntKind.u8.wrap z ∧ IntKind.u8.wrap z < 256 := by
  unfold IntKind.wrap
  simp [IntKind.signed, IntKind.bits]
  omega
theorem u8_nat (z : Int) : ((IntKind.u8.wrap z).toNat : Int) = IntKind.u8.wrap z := Int.toNat_of_nonneg (wrap_u8 z).1
theorem lenB_lt (n i : Nat) : lenB n i < 256 := by
  unfold lenB
  have := wrap_u8 (iShr .u64 n (8 * i : Nat))
  omega
theorem lenF_ok {s : SH} (h : s.ok) (n : Nat) : ∀ j, (lenF s n j).ok
  | 0 => h
  | j + 1 => add1_ok (lenF_ok h n j) (lenB_lt _ _)
theorem newS_ok : newS.ok := ⟨rfl, List.length_replicate, fun x hx => by rw [(List.mem_replicate.1 hx).2]; decide, by decide⟩
theorem padZ_ok : ∀ (f : Nat) {s : SH}, s.ok → (padZ f s).ok
  | 0, s, h => h
  | f + 1, s, h => by
    rw [padZ]
    split
    · exact h
    · exact padZ_ok f (add1_ok h (by decide))
theorem outF_len : ∀ (ws : List Int), (outF ws).length = ws.length * 4
  | [] => rfl
  | x :: l => by
    rw [outF, List.flatMap_cons, List.length_append, List.length_cons, show (l.flatMap outB).length = l.length * 4 from outF_len l]
    show 4 + _ = _
    omega
theorem outF_bytes (ws : List Int) : Bytes (outF ws) := by
  intro x hx
  obtain ⟨y, _, hy⟩ := List.mem_flatMap.1 hx
  have h1 := wrap_u8 (iShr .u32 y 24)
  have h2 := wrap_u8 (iShr .u32 y 16)
  have h3 := wrap_u8 (iShr .u32 y 8)
  have h4 := wrap_u8 y
  simp only [outB, List.mem_cons, List.not_mem_nil, or_false] at hy
  rcases hy with rfl | rfl | rfl | rfl <;> omega
theorem finF_ok {s : SH} (h : s.ok) (all : Nat) : (finF s all).ok := lenF_ok (padZ_ok _ (add1_ok h (by decide))) _ _
theorem shaF_len {l : List Nat} (hl : Bytes l) : (shaF l).length = 32 := by
  rw [shaF, outF_len, (finF_ok (addF_ok newS_ok hl) l.length).1]
theorem bytesV_at {l : List Nat} {i : Nat} (hi : i < l.length) : (bytesV l)[0 + i]? = some (.int .u8 (l[i] : Nat)) := by
  rw [Nat.zero_add, bytesV_get, List.getElem?_eq_getElem hi]
  rfl

variable {S : Set0} (hS : StdH S)
include hS
theorem write_spec (r b m : Nat) (l : List Nat) (s : SH) (e : TypeId) (fl : Bool) (h : H) (hok : s.ok) (hl : Bytes l) (hll : l.length < 2 ^ 40) (hr : r < h.nx) (hb : b < h.nx) (hbr : b ≠ r) (hg : h.get r = some (.cells (s.cells 0) 110 false)) (hgb : h.get b = some (.cells (bytesV l) e fl)) : callW S.cfg (fun k => k = r) 81 [.ptr r 0, .slice b 0 l.length m] h fun v h' => v = .int .i64 0 ∧ ButS r h h' ∧ h'.get r = some (.cells ((addF s l).cells l.length) 110 false) := by
  refine into Tryz.f81 _ Tryz.func81 (hS.ownH _ (by decide)) rfl rfl (by kernel_rfl) (by kernel_rfl) ?_
  simp +contextual (disch := first | (simp only [fr]; done) | omega | (simp only [Knx]; omega) | (apply Nat.le_antisymm <;> simp only [Knx] <;> omega) | fail) only [wpy, fD, reduceLE, reduceLT, reduceLeDiff, UInt8.reduceToNat, ↓reduceIte, reduceEqDiff, reduceAdd, reduceCtorEq, reduceToNat, Tryz.f81]
  refine callF_exact (none_spec hS r 2 _ _ _ (by decide) hg) ?_
  simp +contextual (disch := first | (simp only [fr]; done) | omega | (simp only [Knx]; omega) | (apply Nat.le_antisymm <;> simp only [Knx] <;> omega) | fail) only [wpy, fD, reduceLE, reduceLT, reduceLeDiff, UInt8.reduceToNat, ↓reduceIte, reduceEqDiff, reduceAdd, reduceCtorEq, reduceToNat, Tryz.f81]
  refine callF_of (add_spec hS r b 0 m l s 0 _ _ _ _ hok hl hll hr hb hbr hg hgb fun i hi => bytesV_at hi) (fun k q => by subst q; rw [fresh_def]; exact .inr rfl) ?_
  rintro v h1 ⟨rfl, hx1, hg1⟩
  have hok1 := addF_ok hok hl
  generalize addF s l = s1 at *
  rw [SH.cells] at hg1
  have l1 : ∀ a : Int, (hashC s1.ws s1.rest s1.n a).length = 75 := fun a => hashC_len hok1.1 hok1.2.1
  have ga : ∀ a : Int, (hashC s1.ws s1.rest s1.n a)[74]? = some (.int .i64 a) := fun a => hashC_all hok1.1 hok1.2.1
  have sa : ∀ a a' : Int, listPut (hashC s1.ws s1.rest s1.n a) 74 [.int .i64 a'] = hashC s1.ws s1.rest s1.n a' := fun a a' => hashC_set_all hok1.1 hok1.2.1 a'
  have h75 : 74 + 1 ≤ 75 := Nat.le_refl _
  have w0 : IntKind.i64.wrap (0 + (l.length : Int)) = (l.length : Int) := by
    unfold IntKind.wrap
    simp [IntKind.signed, IntKind.bits]
    omega
  simp +contextual (disch := first | (simp only [fr]; done) | omega | (simp only [Knx]; omega) | (apply Nat.le_antisymm <;> simp only [Knx] <;> omega) | fail) only [wpy, fD, reduceLE, reduceLT, reduceLeDiff, UInt8.reduceToNat, ↓reduceIte, reduceEqDiff, reduceAdd, reduceCtorEq, reduceToNat, Tryz.f81, hg1, l1, ga, sa, h75, w0, eq_self']
  first | exact ⟨hx1.put _, rfl⟩ | trace_state
theorem add_one (r x : Nat) (s : SH) (all : Int) (h : H) (b : Nat) (hb : b = h.nx) (c : List V) (hcx : c = [.int .u8 (x : Nat)]) (hok : s.ok) (hx : x < 256) (hr : r < h.nx) (hg : h.get r = some (.cells (s.cells all) 110 false)) : callW S.cfg (fun k => k = r) 103 [.ptr r 0, .slice b 0 1 1] (h.push (.cells c 5 false)) fun v h' => v = .tuple [] ∧ ButS r h h' ∧ h'.get r = some (.cells ((add1 s x).cells all) 110 false) := by
  subst hb hcx
  refine callW_mono (add_spec hS r h.nx 0 1 [x] s all [.int .u8 (x : Nat)] 5 false _ hok (fun y hy => by rw [List.mem_singleton] at hy; subst hy; exact hx) (by show 1 < 2 ^ 40; decide) (Nat.lt_succ_of_lt hr) (Nat.lt_succ_self _) (by omega) (by rw [push_ne (by omega)]; exact hg) (push_eq rfl) ?_) (fun _ q => q) ?_
  · intro i hi
    have : i = 0 := by simp at hi; omega
    subst this
    rfl
  · rintro v h' ⟨rfl, hx, hg'⟩
    exact ⟨rfl, (ButS.of_ext ((Ext.refl h).push _)).trans hx, hg'⟩
set_option maxHeartbeats 4000000 in
theorem Sum_spec (r : Nat) (s : SH) (all : Nat) (h : H) (hok : s.ok) (hall : all < 2 ^ 40) (hr : r < h.nx) (hg : h.get r = some (.cells (s.cells all) 110 false)) : Pure S.cfg 82 [.ptr r 0] h fun v h' => Wx.Acc h.nx h' v (bytesV (outF (finF s all).ws)) 5 1 := by
  refine into Tryz.f82 _ Tryz.func82 (hS.ownH _ (by decide)) rfl rfl (by kernel_rfl) (by kernel_rfl) ?_
  simp +contextual (disch := first | (simp only [fr]; done) | omega | (simp only [Knx]; omega) | (apply Nat.le_antisymm <;> simp only [Knx] <;> omega) | fail) only [wpy, fD, reduceLE, reduceLT, reduceLeDiff, UInt8.reduceToNat, ↓reduceIte, reduceEqDiff, reduceAdd, reduceCtorEq, reduceToNat, Tryz.f82]
  refine callF_exact (none_spec hS r 2 _ _ _ (by decide) hg) ?_
  have hcl : (s.cells all).length = 75 := hashC_len hok.1 hok.2.1
  have htk : List.take 75 (s.cells all) = s.cells all := List.take_of_length_le (by omega)
  have hcc : (s.cells all).all V.isCell = true := by
    unfold SH.cells hashC bytesV
    simp [V.isCell]
  have hpa : ∀ l : List V, l.length = 75 → listPut l 0 (s.cells all) = s.cells all := fun l hl => listPut_all _ _ (by omega)
  have h75 : (75 : Nat) ≤ 75 := Nat.le_refl _
  have hn : ¬ r = h.nx := by omega
  simp +contextual (disch := first | (simp only [fr]; done) | omega | (simp only [Knx]; omega) | (apply Nat.le_antisymm <;> simp only [Knx] <;> omega) | fail) only [wpy, fD, reduceLE, reduceLT, reduceLeDiff, UInt8.reduceToNat, ↓reduceIte, reduceEqDiff, reduceAdd, reduceCtorEq, reduceToNat, Tryz.f82, hg, hcl, htk, hcc, h75]
  refine callF_of (add_one hS h.nx 128 s all _ _ rfl _ rfl hok (by decide) (Nat.lt_succ_self _) (by rw [put_eq rfl, listPut_all]; rw [hcl]; rfl)) (fun k q => by subst q; rw [fresh_def]; exact .inl (Nat.le_refl _)) ?_
  rintro v h1 ⟨rfl, hx1, hg1⟩
  have hX1 : Ext h h1 := ⟨by have := hx1.1; simp only [put_nx, push_nx] at this; omega, fun k hk => by rw [hx1.2 k (by simp only [put_nx, push_nx]; omega) (by omega), put_ne (by omega), push_ne (by omega)]⟩
  have hn1 : h.nx < h1.nx := by have := hx1.1; simp only [put_nx, push_nx] at this; omega
  have hok1 : (add1 s 128).ok := add1_ok hok (by decide)
  simp +contextual (disch := first | (simp only [fr]; done) | omega | (simp only [Knx]; omega) | (apply Nat.le_antisymm <;> simp only [Knx] <;> omega) | fail) only [wpy, fD, reduceLE, reduceLT, reduceLeDiff, UInt8.reduceToNat, ↓reduceIte, reduceEqDiff, reduceAdd, reduceCtorEq, reduceToNat, Tryz.f82]
  refine run_loop (fun k env h' => ∃ (s2 : SH) (f : Nat), k = padM s2 ∧ padM s2 < f ∧ padZ 65 (add1 s 128) = padZ f s2 ∧ s2.ok ∧ env 0 = .ptr r 0 ∧ env 3 = .ptr h.nx 0 ∧ Ext h h' ∧ h.nx < h'.nx ∧ h'.get h.nx = some (.cells (s2.cells all) 110 false)) (padM (add1 s 128)) ⟨add1 s 128, 65, ?_⟩ ?_
  · have hpm : padM (add1 s 128) < 65 := by
      have := hok1.2.2.2
      unfold padM
      split <;> omega
    simp +contextual (disch := first | (simp only [fr]; done) | omega | (simp only [Knx]; omega) | (apply Nat.le_antisymm <;> simp only [Knx] <;> omega) | fail) only [wpy, fD, reduceLE, reduceLT, reduceLeDiff, UInt8.reduceToNat, ↓reduceIte, reduceEqDiff, reduceAdd, reduceCtorEq, reduceToNat]
    exact ⟨hpm, hok1, hX1, hn1, hg1⟩
  rintro k env h' ⟨s2, f, rfl, hf, hp, hok2, e0, e3, hx, hn', hg2⟩
  obtain ⟨f, rfl⟩ : ∃ g, f = g + 1 := ⟨f - 1, by omega⟩
  rw [show padZ (f + 1) s2 = if s2.n = 56 then s2 else padZ f (add1 s2 0) from rfl] at hp
  have gn : (s2.cells all)[73]? = some (.int .i64 s2.n) := hashC_n hok2.1 hok2.2.1
  by_cases h56 : s2.n = 56
  · rw [if_pos h56] at hp
    have h56' := eq_true h56
    have hgr : h'.get r = some (.cells (s.cells all) 110 false) := by rw [hx.2 r hr]; exact hg
    have gr74 : (s.cells all)[74]? = some (.int .i64 all) := hashC_all hok.1 hok.2.1
    have wall : IntKind.u64.wrap (all : Int) = ((all : Nat) : Int) := by
      unfold IntKind.wrap
      simp [IntKind.signed, IntKind.bits]
      omega
    have w8 : IntKind.u64.wrap ((all : Int) * 8) = ((all * 8 : Nat) : Int) := by
      unfold IntKind.wrap
      simp [IntKind.signed, IntKind.bits]
      omega
    simp +contextual (disch := first | (simp only [fr]; done) | omega | (simp only [Knx]; omega) | (apply Nat.le_antisymm <;> simp only [Knx] <;> omega) | fail) only [wpy, fD, reduceLE, reduceLT, reduceLeDiff, UInt8.reduceToNat, ↓reduceIte, reduceEqDiff, reduceAdd, reduceCtorEq, reduceToNat, Tryz.f82, e0, e3, hg2, gn, h56', hgr, gr74, wall, w8]
    obtain ⟨hn2, hn3⟩ : h.nx < h'.nx ∧ True := ⟨hn', trivial⟩
    refine run_loop (fun k env2 h2 => ∃ j : Nat, k = j ∧ j ≤ 8 ∧ env2 0 = .ptr r 0 ∧ env2 3 = .ptr h.nx 0 ∧ env2 4 = .int .u64 (all * 8 : Nat) ∧ env2 5 = .int .i64 ((j : Int) - 1) ∧ Ext h h2 ∧ h.nx < h2.nx ∧ h2.get h.nx = some (.cells ((lenF s2 (all * 8) (8 - j)).cells all) 110 false)) 8 ⟨8, ?_⟩ ?_
    · simp +contextual (disch := first | (simp only [fr]; done) | omega | (simp only [Knx]; omega) | (apply Nat.le_antisymm <;> simp only [Knx] <;> omega) | fail) only [wpy, fD, reduceLE, reduceLT, reduceLeDiff, UInt8.reduceToNat, ↓reduceIte, reduceEqDiff, reduceAdd, reduceCtorEq, reduceToNat, e0, e3]
      exact ⟨rfl, hx, hn', hg2⟩
    rintro k env2 h2 ⟨j, hkj, hj, f0, f3, f4, f5, hx2, hn2, hgl⟩
    by_cases hj0 : j = 0
    · subst hj0
      have hneg : ¬ (0 : Int) ≤ ((0 : Nat) : Int) - 1 := by decide
      have hgr2 : h2.get r = some (.cells (s.cells all) 110 false) := by rw [hx2.2 r hr]; exact hg
      have hok3 := lenF_ok hok2 (all * 8) 8
      have hfin : finF s all = lenF s2 (all * 8) 8 := by rw [finF, hp]
      rw [hfin]
      simp +contextual (disch := first | (simp only [fr]; done) | omega | (simp only [Knx]; omega) | (apply Nat.le_antisymm <;> simp only [Knx] <;> omega) | fail) only [wpy, fD, reduceLE, reduceLT, reduceLeDiff, UInt8.reduceToNat, ↓reduceIte, reduceEqDiff, reduceAdd, reduceCtorEq, reduceToNat, Tryz.f82, f0, f3, f4, f5, hneg]
      refine slice_array (e := 56) (sz := 1) (n := 8) (b := h.nx) (o := 1) (l := 0) (hh := 8) (m := 8) (by kernel_rfl) sz56 (by simp +contextual (disch := first | (simp only [fr]; done) | omega | (simp only [Knx]; omega) | (apply Nat.le_antisymm <;> simp only [Knx] <;> omega) | fail) only [wpy, fD, reduceLE, reduceLT, reduceLeDiff, UInt8.reduceToNat, ↓reduceIte, reduceEqDiff, reduceAdd, reduceCtorEq, reduceToNat]) rfl ?_
      have k0 : (s.cells all)[0]? = some (.int .i64 2) := rfl
      simp +contextual (disch := first | (simp only [fr]; done) | omega | (simp only [Knx]; omega) | (apply Nat.le_antisymm <;> simp only [Knx] <;> omega) | fail) only [wpy, fD, reduceLE, reduceLT, reduceLeDiff, UInt8.reduceToNat, ↓reduceIte, reduceEqDiff, reduceAdd, reduceCtorEq, reduceToNat, Tryz.f82, f0, f3, hgr2, k0, ne21, ne21n]
      generalize lenF s2 (all * 8) 8 = s3 at *
      refine run_loop (fun k env3 h3 => ∃ (i : Nat) (l : V), k = 8 - i ∧ i ≤ 8 ∧ env3 48 = .slice h.nx 1 8 8 ∧ env3 49 = .int .i64 (8 : Nat) ∧ env3 50 = .int .i64 i ∧ env3 7 = l ∧ Ext h h3 ∧ h.nx < h3.nx ∧ h3.get h.nx = some (.cells (s3.cells all) 110 false) ∧ Wx.Acc (h.nx + 1) h3 l (bytesV (outF (s3.ws.take i))) 5 1) 8 ⟨0, .nilslice, ?_⟩ ?_
      · simp +contextual (disch := first | (simp only [fr]; done) | omega | (simp only [Knx]; omega) | (apply Nat.le_antisymm <;> simp only [Knx] <;> omega) | fail) only [wpy, fD, reduceLE, reduceLT, reduceLeDiff, UInt8.reduceToNat, ↓reduceIte, reduceEqDiff, reduceAdd, reduceCtorEq, reduceToNat]
        exact ⟨hx2, hn2, hgl, .inl ⟨rfl, rfl⟩⟩
      rintro k env3 h3 ⟨i, l, rfl, hi, k48, k49, k50, k7, hx3, hn3, hg3, hl⟩
      have hc1 := hl.cell.1
      have hc2 := hl.cell.2
      by_cases hi2 : i < 8
      · have gwi : (s3.cells all)[1 + i]? = some (.int .u32 (s3.ws.getD i 0)) := hashC_w hok3.1 hok3.2.1 hi2
        have hst : outF (s3.ws.take (i + 1)) = outF (s3.ws.take i) ++ outB (s3.ws.getD i 0) := by
          rw [outF, List.take_succ_eq_append_getElem (by rw [hok3.1]; exact hi2), List.flatMap_append, List.getD_eq_getElem?_getD, List.getElem?_eq_getElem (by rw [hok3.1]; exact hi2)]
          simp [outF]
        simp +contextual (disch := first | (simp only [fr]; done) | omega | (simp only [Knx]; omega) | (apply Nat.le_antisymm <;> simp only [Knx] <;> omega) | fail) only [wpy, fD, reduceLE, reduceLT, reduceLeDiff, UInt8.reduceToNat, ↓reduceIte, reduceEqDiff, reduceAdd, reduceCtorEq, reduceToNat, Tryz.f82, k48, k49, k50, k7, hi2, hg3, gwi]
        refine append_new (sv := l) (n0 := h.nx + 1) (by simp +contextual (disch := first | (simp only [fr]; done) | omega | (simp only [Knx]; omega) | (apply Nat.le_antisymm <;> simp only [Knx] <;> omega) | fail) only [wpy, fD, reduceLE, reduceLT, reduceLeDiff, UInt8.reduceToNat, ↓reduceIte, reduceEqDiff, reduceAdd, reduceCtorEq, reduceToNat]) ap35 ⟨.slice 5, by kernel_rfl, rfl⟩ hl (by simp +contextual (disch := first | (simp only [fr]; done) | omega | (simp only [Knx]; omega) | (apply Nat.le_antisymm <;> simp only [Knx] <;> omega) | fail) only [wpy, fD, reduceLE, reduceLT, reduceLeDiff, UInt8.reduceToNat, ↓reduceIte, reduceEqDiff, reduceAdd, reduceCtorEq, reduceToNat]) (n := 4) (by decide) rfl rfl ?_ (by decide) (fun k hk => by rw [fresh_def]; exact .inl (by omega)) (by omega) ?_
        · rw [bytesV_len, outF_len, List.length_take]
          show _ + 4 ≤ _
          omega
        intro v h4 L ha4 hn4 hf4 hf5 _
        have hv1 := ha4.cell.1
        have hv2 := ha4.cell.2
        have hnl : ∀ o n m, l ≠ .slice h.nx o n m := fun o n m => hl.ne (Nat.lt_succ_self _)
        have g4 : h4.get h.nx = some (.cells (s3.cells all) 110 false) := by rw [hf4 h.nx hn3 hnl]; exact hg3
        simp +contextual (disch := first | (simp only [fr]; done) | omega | (simp only [Knx]; omega) | (apply Nat.le_antisymm <;> simp only [Knx] <;> omega) | fail) only [wpy, fD, reduceLE, reduceLT, reduceLeDiff, UInt8.reduceToNat, ↓reduceIte, reduceEqDiff, reduceAdd, reduceCtorEq, reduceToNat, Tryz.f82, k48, k49, k50, k7, hi2, hv1, hv2]
        refine ⟨_, by omega, i + 1, v, rfl, by omega, rfl, rfl, ⟨by have := hx3.1; omega, fun k hk => by rw [hf5 k (by omega), hx3.2 k hk]⟩, by omega, g4, ?_⟩
        rw [hst, show bytesV (outF (s3.ws.take i) ++ outB (s3.ws.getD i 0)) = bytesV (outF (s3.ws.take i)) ++ bytesV (outB (s3.ws.getD i 0)) by simp [bytesV]]
        have hnew : bytesV (outB (s3.ws.getD i 0)) = [.int .u8 (IntKind.u8.wrap (iShr .u32 (s3.ws.getD i 0) 24)), .int .u8 (IntKind.u8.wrap (iShr .u32 (s3.ws.getD i 0) 16)), .int .u8 (IntKind.u8.wrap (iShr .u32 (s3.ws.getD i 0) 8)), .int .u8 (IntKind.u8.wrap (s3.ws.getD i 0))] := by
          simp only [outB, bytesV, List.map_cons, List.map_nil, u8_nat]
        rw [hnew]
        exact ha4
      · obtain rfl : i = 8 := by omega
        rw [List.take_of_length_le (by rw [hok3.1]; exact Nat.le_refl _)] at hl
        simp +contextual (disch := first | (simp only [fr]; done) | omega | (simp only [Knx]; omega) | (apply Nat.le_antisymm <;> simp only [Knx] <;> omega) | fail) only [wpy, fD, reduceLE, reduceLT, reduceLeDiff, UInt8.reduceToNat, ↓reduceIte, reduceEqDiff, reduceAdd, reduceCtorEq, reduceToNat, Tryz.f82, k48, k49, k50, k7, hi2]
        first | exact ⟨hx3, hl.mono (by omega)⟩ | trace_state
    · obtain ⟨q, rfl⟩ : ∃ q, j = q + 1 := ⟨j - 1, by omega⟩
      have eq1 : (((q + 1 : Nat) : Int) - 1) = (q : Int) := by omega
      rw [eq1] at f5
      have w8q : IntKind.i64.wrap (8 * (q : Int)) = ((8 * q : Nat) : Int) := by
        unfold IntKind.wrap
        simp [IntKind.signed, IntKind.bits]
        omega
      have hlq : lenF s2 (all * 8) (8 - q) = add1 (lenF s2 (all * 8) (8 - (q + 1))) (lenB (all * 8) q) := by
        rw [show 8 - q = (8 - (q + 1)) + 1 by omega, show lenF s2 (all * 8) (8 - (q + 1) + 1) = add1 (lenF s2 (all * 8) (8 - (q + 1))) (lenB (all * 8) (7 - (8 - (q + 1)))) from rfl, show 7 - (8 - (q + 1)) = q by omega]
      have hok3 := lenF_ok hok2 (all * 8) (8 - (q + 1))
      have hq0 : ¬ 8 * q < 0 := by omega
      simp +contextual (disch := first | (simp only [fr]; done) | omega | (simp only [Knx]; omega) | (apply Nat.le_antisymm <;> simp only [Knx] <;> omega) | fail) only [wpy, fD, reduceLE, reduceLT, reduceLeDiff, UInt8.reduceToNat, ↓reduceIte, reduceEqDiff, reduceAdd, reduceCtorEq, reduceToNat, Tryz.f82, f0, f3, f4, f5, w8q, hq0]
      refine callF_of (add_one hS h.nx (lenB (all * 8) q) _ all _ _ rfl _ (by rw [lenB, u8_nat]) hok3 (lenB_lt _ _) hn2 hgl) (fun k q => by subst q; rw [fresh_def]; exact .inl (Nat.le_refl _)) ?_
      rintro v h4 ⟨rfl, hx4, hg4⟩
      have wq1 : IntKind.i64.wrap ((q : Int) - 1) = (q : Int) - 1 := by
        unfold IntKind.wrap
        simp [IntKind.signed, IntKind.bits]
        omega
      simp +contextual (disch := first | (simp only [fr]; done) | omega | (simp only [Knx]; omega) | (apply Nat.le_antisymm <;> simp only [Knx] <;> omega) | fail) only [wpy, fD, reduceLE, reduceLT, reduceLeDiff, UInt8.reduceToNat, ↓reduceIte, reduceEqDiff, reduceAdd, reduceCtorEq, reduceToNat, Tryz.f82, f0, f3, f4, f5, wq1]
      exact ⟨q, by omega, q, rfl, by omega, rfl, ⟨by have := hx2.1; have := hx4.1; omega, fun k hk => by rw [hx4.2 k (by have := hx2.1; omega) (by omega), hx2.2 k hk]⟩, by have := hx4.1; omega, by rw [hlq]; exact hg4⟩
  · have hlt := padM_lt hok2.2.2.2 h56
    rw [if_neg h56] at hp
    have h56' := eq_false h56
    simp +contextual (disch := first | (simp only [fr]; done) | omega | (simp only [Knx]; omega) | (apply Nat.le_antisymm <;> simp only [Knx] <;> omega) | fail) only [wpy, fD, reduceLE, reduceLT, reduceLeDiff, UInt8.reduceToNat, ↓reduceIte, reduceEqDiff, reduceAdd, reduceCtorEq, reduceToNat, Tryz.f82, e0, e3, hg2, gn, h56']
    refine callF_of (add_one hS h.nx 0 s2 all _ _ rfl _ rfl hok2 (by decide) hn' hg2) (fun k q => by subst q; rw [fresh_def]; exact .inl (Nat.le_refl _)) ?_
    rintro v h4 ⟨rfl, hx4, hg4⟩
    simp +contextual (disch := first | (simp only [fr]; done) | omega | (simp only [Knx]; omega) | (apply Nat.le_antisymm <;> simp only [Knx] <;> omega) | fail) only [wpy, fD, reduceLE, reduceLT, reduceLeDiff, UInt8.reduceToNat, ↓reduceIte, reduceEqDiff, reduceAdd, reduceCtorEq, reduceToNat, Tryz.f82, e0, e3]
    exact ⟨_, hlt, add1 s2 0, f, rfl, by omega, hp, add1_ok hok2 (by decide), ⟨by have := hx.1; have := hx4.1; omega, fun k hk => by rw [hx4.2 k (by have := hx.1; omega) (by omega), hx.2 k hk]⟩, by have := hx4.1; omega, hg4⟩
theorem sum_spec (b m : Nat) (l : List Nat) (e : TypeId) (fl : Bool) (h : H) (hl : Bytes l) (hll : l.length < 2 ^ 40) (hb : b < h.nx) (hgb : h.get b = some (.cells (bytesV l) e fl)) : Pure S.cfg 43 [.int .i64 2, .slice b 0 l.length m] h fun v h' => Wx.Acc h.nx h' v (bytesV (shaF l)) 5 1 := by
  refine into Tryz.f43 _ Tryz.func43 (hS.ownH _ (by decide)) rfl rfl (by kernel_rfl) (by kernel_rfl) ?_
  simp +contextual (disch := first | (simp only [fr]; done) | omega | (simp only [Knx]; omega) | (apply Nat.le_antisymm <;> simp only [Knx] <;> omega) | fail) only [wpy, fD, reduceLE, reduceLT, reduceLeDiff, UInt8.reduceToNat, ↓reduceIte, reduceEqDiff, reduceAdd, reduceCtorEq, reduceToNat, Tryz.f43]
  refine callF_pure (new_spec hS _) ?_
  rintro v h1 hx1 ⟨r, rfl, hr0, hr1, hg1⟩
  simp +contextual (disch := first | (simp only [fr]; done) | omega | (simp only [Knx]; omega) | (apply Nat.le_antisymm <;> simp only [Knx] <;> omega) | fail) only [wpy, fD, reduceLE, reduceLT, reduceLeDiff, UInt8.reduceToNat, ↓reduceIte, reduceEqDiff, reduceAdd, reduceCtorEq, reduceToNat, Tryz.f43]
  refine callF_of (write_spec hS r b m l newS e fl h1 newS_ok hl hll hr1 (Nat.lt_of_lt_of_le hb hx1.1) (by omega) hg1 (by rw [hx1.2 b hb]; exact hgb)) (fun k q => by subst q; rw [fresh_def]; exact .inl hr0) ?_
  rintro v h2 ⟨rfl, hx2, hg2⟩
  have hX2 : Ext h h2 := ⟨Nat.le_trans hx1.1 hx2.1, fun k hk => by rw [hx2.2 k (Nat.lt_of_lt_of_le hk hx1.1) (by omega), hx1.2 k hk]⟩
  simp +contextual (disch := first | (simp only [fr]; done) | omega | (simp only [Knx]; omega) | (apply Nat.le_antisymm <;> simp only [Knx] <;> omega) | fail) only [wpy, fD, reduceLE, reduceLT, reduceLeDiff, UInt8.reduceToNat, ↓reduceIte, reduceEqDiff, reduceAdd, reduceCtorEq, reduceToNat, Tryz.f43]
  refine callF_pure (Sum_spec hS r _ l.length _ (addF_ok newS_ok hl) hll (Nat.lt_of_lt_of_le hr1 hx2.1) hg2) ?_
  intro v h3 hx3 ha3
  have hv1 := ha3.cell.1
  have hv2 := ha3.cell.2
  simp +contextual (disch := first | (simp only [fr]; done) | omega | (simp only [Knx]; omega) | (apply Nat.le_antisymm <;> simp only [Knx] <;> omega) | fail) only [wpy, fD, reduceLE, reduceLT, reduceLeDiff, UInt8.reduceToNat, ↓reduceIte, reduceEqDiff, reduceAdd, reduceCtorEq, reduceToNat, Tryz.f43, hv1, hv2]
  exact ⟨hX2.trans hx3, ha3.mono hX2.1⟩
theorem sum256_spec (b m : Nat) (l : List Nat) (e : TypeId) (fl : Bool) (h : H) (hl : Bytes l) (hll : l.length < 2 ^ 40) (hb : b < h.nx) (hgb : h.get b = some (.cells (bytesV l) e fl)) : Pure S.cfg 16 [.slice b 0 l.length m] h fun v h' => Wx.Acc h.nx h' v (bytesV (shaF l)) 5 1 := by
  refine into Tryz.f16 _ Tryz.func16 (hS.ownH _ (by decide)) rfl rfl (by kernel_rfl) (by kernel_rfl) ?_
  simp +contextual (disch := first | (simp only [fr]; done) | omega | (simp only [Knx]; omega) | (apply Nat.le_antisymm <;> simp only [Knx] <;> omega) | fail) only [wpy, fD, reduceLE, reduceLT, reduceLeDiff, UInt8.reduceToNat, ↓reduceIte, reduceEqDiff, reduceAdd, reduceCtorEq, reduceToNat, Tryz.f16]
  refine callF_pure (sum_spec hS b m l e fl h hl hll hb hgb) ?_
  intro v h3 hx3 ha3
  have hv1 := ha3.cell.1
  have hv2 := ha3.cell.2
  simp +contextual (disch := first | (simp only [fr]; done) | omega | (simp only [Knx]; omega) | (apply Nat.le_antisymm <;> simp only [Knx] <;> omega) | fail) only [wpy, fD, reduceLE, reduceLT, reduceLeDiff, UInt8.reduceToNat, ↓reduceIte, reduceEqDiff, reduceAdd, reduceCtorEq, reduceToNat, Tryz.f16, hv1, hv2]
  exact ⟨hx3, ha3⟩
end
end Go.Proofs.YtkibhdbmamfjcaaGreatDoor
set_option maxHeartbeats 1000000
set_option linter.unusedSimpArgs false
set_option linter.unusedVariables false
set_option linter.defProp false
set_option maxRecDepth 10000
namespace Go.Proofs.YtkibhdbmamfjcaaGreatDoor
open Int (reduceLE reduceLT reduceToNat)
open Nat (reduceLeDiff reduceEqDiff reduceAdd)
open Go.Proofs Go.Lx Go.Wx Go.IntWalk
noncomputable section

def digs : List Nat := [48, 49, 50, 51, 52, 53, 54, 55, 56, 57, 97, 98, 99, 100, 101, 102]
def hexB (b : Nat) : List Nat := [digs.getD (b / 16) 0, digs.getD (b % 16) 0]
def hexF (l : List Nat) : List Nat := l.flatMap hexB
theorem shr4 : ∀ b : Nat, b < 256 → iShr .u8 (b : Nat) 4 = ((b / 16 : Nat) : Int) := of_decide_eq_true (by kernel_rfl)
theorem and15 : ∀ b : Nat, b < 256 → iAnd .u8 (b : Nat) 15 = ((b % 16 : Nat) : Int) := of_decide_eq_true (by kernel_rfl)
theorem digs_lt (i : Nat) : digs.getD i 0 < 256 := by
  by_cases h : i < 16
  · have : ∀ i : Nat, i < 16 → digs.getD i 0 < 256 := of_decide_eq_true (by kernel_rfl)
    exact this i h
  · rw [List.getD_eq_getElem?_getD, List.getElem?_eq_none (by show 16 ≤ i; omega)]
    decide
theorem hexF_len : ∀ (l : List Nat), (hexF l).length = l.length * 2
  | [] => rfl
  | b :: l => by
    rw [hexF, List.flatMap_cons, List.length_append, List.length_cons, show (l.flatMap hexB).length = l.length * 2 from hexF_len l]
    show 2 + _ = _
    omega
theorem hexF_bytes (l : List Nat) : Bytes (hexF l) := by
  intro x hx
  obtain ⟨y, _, hy⟩ := List.mem_flatMap.1 hx
  simp only [hexB, List.mem_cons, List.not_mem_nil, or_false] at hy
  rcases hy with rfl | rfl <;> exact digs_lt _
theorem digF_ok {s : List Nat} (hb : Bytes s) (hs : s.length ≤ 2000) : Bytes (digF s).t ∧ (digF s).t.length < 2 ^ 27 ∧ (¬ ((digF s).e = 0 ∧ (digF s).p = 0) → (digF s).t = []) := by
  rw [digF, if_neg (by omega)]
  cases hA : allF s with
  | inl ws =>
    have hg := wordsF_good (allF_good hb hA)
    refine ⟨bytes_join _ _, ?_, fun q => (q ⟨rfl, rfl⟩).elim⟩
    have h1 := joinF_len (ts := (wordsF ws).map tellF) (sep := [32]) (B := 9 * s.length + 20) fun t ht => by
      obtain ⟨w, hw, rfl⟩ := List.mem_map.1 ht
      exact (tellF_ok (hg.2 w hw)).2
    rw [List.length_map] at h1
    have h2 : (wordsF ws).length * (9 * s.length + 20 + [32].length) ≤ 2000 * 18021 := Nat.mul_le_mul (Nat.le_trans hg.1 hs) (by show 9 * s.length + 20 + 1 ≤ 18021; omega)
    show (joinF _ _).length < _
    omega
  | inr ep =>
    obtain ⟨e, p⟩ := ep
    exact ⟨(by intro b hb; cases hb), (by show 0 < 2 ^ 27; decide), fun _ => rfl⟩

variable {S : Set0} (hS : StdH S)
include hS
set_option maxHeartbeats 2000000 in
theorem of_spec (s : List Nat) (h : H) (hb : Bytes s) (hs : s.length ≤ 2000) : Pure S.cfg 7 [.str s] h fun v _ => v = .tuple [.str (if (digF s).e = 0 ∧ (digF s).p = 0 then hexF ((shaF (digF s).t).take 8) else []), .agg [.int .i64 (digF s).e, .int .i64 (digF s).p]] := by
  refine into Tryz.f7 _ Tryz.func7 (hS.ownD _ (by decide)) rfl rfl (by kernel_rfl) (by kernel_rfl) ?_
  simp +contextual (disch := first | (simp only [fr]; done) | omega | (simp only [Knx]; omega) | (apply Nat.le_antisymm <;> simp only [Knx] <;> omega) | fail) only [wpy, fD, reduceLE, reduceLT, reduceLeDiff, UInt8.reduceToNat, ↓reduceIte, reduceEqDiff, reduceAdd, reduceCtorEq, reduceToNat, Tryz.f7]
  refine callF_pure (text_spec' hS.toStdD s _ hb (by omega)) ?_
  obtain ⟨k1, k2, k3⟩ := digF_ok hb hs
  rintro v h1 hx1 rfl
  have hX1 : Ext h h1 := ((Ext.refl h).push _).trans hx1
  have g1 : h1.get h.nx = some (.cells [.int .i64 0, .int .i64 0] 25 false) := by rw [hx1.2 h.nx (Nat.lt_succ_self _), push_eq rfl]
  have n1 : ¬ h.nx = h1.nx := by have := hx1.1; rw [push_nx] at this; omega
  have hTv : (digF s).v = .tuple [.str (digF s).t, .agg [.int .i64 (digF s).e, .int .i64 (digF s).p]] := rfl
  rw [hTv]
  generalize digF s = T at *
  by_cases hf : T.e = 0 ∧ T.p = 0
  · rw [if_pos hf]
    have hf' := eq_true hf
    obtain ⟨f1, f2⟩ := hf
    simp +contextual (disch := first | (simp only [fr]; done) | omega | (simp only [Knx]; omega) | (apply Nat.le_antisymm <;> simp only [Knx] <;> omega) | fail) only [wpy, fD, reduceLE, reduceLT, reduceLeDiff, UInt8.reduceToNat, ↓reduceIte, reduceEqDiff, reduceAdd, reduceCtorEq, reduceToNat, Tryz.f7, dagg_neq, hf', g1, n1]
    refine ⟨.inr hX1.1, callF_pure (sum256_spec hS (h1.nx + 1) T.t.length T.t 5 true _ k1 (by omega) (by show h1.nx + 1 < h1.nx + 1 + 1; omega) (push_eq rfl)) ?_⟩
    intro v2 h2 hx2 ha2
    have hX2 : Ext h h2 := (hX1.trans ((Ext.new h1 _ _).push _)).trans hx2
    have hsl := shaF_len k1
    have g2 : h2.get h.nx = some (.cells [.int .i64 0, .int .i64 0] 25 false) := by
      have := hx1.1
      simp only [push_nx] at this
      rw [hx2.2 h.nx (by simp only [push_nx, put_nx]; omega), push_ne (by simp only [push_nx, put_nx]; omega), put_ne (by omega), push_ne (by omega)]
      exact g1
    have hn2 : h.nx < h2.nx := by
      have := hx1.1
      have h3 := hx2.1
      simp only [push_nx, put_nx] at this h3
      omega
    rcases ha2 with ⟨_, q⟩ | ⟨b, n, hb0, hb1, rfl, hn, hg, hl⟩
    · have := congrArg List.length q
      rw [bytesV_len, hsl] at this
      cases this
    rw [bytesV_len, hsl, Nat.mul_one] at hl
    subst hl
    have hsb : Bytes (shaF T.t) := outF_bytes _
    generalize shaF T.t = hs at *
    simp +contextual (disch := first | (simp only [fr]; done) | omega | (simp only [Knx]; omega) | (apply Nat.le_antisymm <;> simp only [Knx] <;> omega) | fail) only [wpy, fD, reduceLE, reduceLT, reduceLeDiff, UInt8.reduceToNat, ↓reduceIte, reduceEqDiff, reduceAdd, reduceCtorEq, reduceToNat, Tryz.f7]
    refine slice_row (e := 5) (sz := 1) (b := b) (o := 0) (n := 32) (m := 32) (l := 0) (hh := 8) (mm := 32) (by kernel_rfl) sz5 (by simp +contextual (disch := first | (simp only [fr]; done) | omega | (simp only [Knx]; omega) | (apply Nat.le_antisymm <;> simp only [Knx] <;> omega) | fail) only [wpy, fD, reduceLE, reduceLT, reduceLeDiff, UInt8.reduceToNat, ↓reduceIte, reduceEqDiff, reduceAdd, reduceCtorEq, reduceToNat]) (by rw [hg]; rfl) (fun _ => rfl) (by simp +contextual (disch := first | (simp only [fr]; done) | omega | (simp only [Knx]; omega) | (apply Nat.le_antisymm <;> simp only [Knx] <;> omega) | fail) only [wpy, fD, reduceLE, reduceLT, reduceLeDiff, UInt8.reduceToNat, ↓reduceIte, reduceEqDiff, reduceAdd, reduceCtorEq, reduceToNat]; exact bounds_hi (b := 8) (by decide)) (by decide) ?_
    simp +contextual (disch := first | (simp only [fr]; done) | omega | (simp only [Knx]; omega) | (apply Nat.le_antisymm <;> simp only [Knx] <;> omega) | fail) only [wpy, fD, reduceLE, reduceLT, reduceLeDiff, UInt8.reduceToNat, ↓reduceIte, reduceEqDiff, reduceAdd, reduceCtorEq, reduceToNat, Tryz.f7]
    refine run_loop (fun k env h' => ∃ (i : Nat) (l : V), k = 8 - i ∧ i ≤ 8 ∧ env 3 = .ptr h.nx 0 ∧ env 6 = l ∧ env 21 = .slice b 0 8 32 ∧ env 22 = .int .i64 (8 : Nat) ∧ env 23 = .int .i64 i ∧ Ext h h' ∧ h2.nx ≤ h'.nx ∧ h'.get b = some (.cells (bytesV hs) 5 true) ∧ h'.get h.nx = some (.cells [.int .i64 0, .int .i64 0] 25 false) ∧ Wx.Acc h2.nx h' l (bytesV (hexF (hs.take i))) 5 1) 8 ⟨0, .nilslice, ?_⟩ ?_
    · simp +contextual (disch := first | (simp only [fr]; done) | omega | (simp only [Knx]; omega) | (apply Nat.le_antisymm <;> simp only [Knx] <;> omega) | fail) only [wpy, fD, reduceLE, reduceLT, reduceLeDiff, UInt8.reduceToNat, ↓reduceIte, reduceEqDiff, reduceAdd, reduceCtorEq, reduceToNat]
      exact ⟨hX2, hg, g2, .inl ⟨rfl, rfl⟩⟩
    rintro k env h' ⟨i, l, rfl, hi, e3, e6, e21, e22, e23, hx, hn', hgb, hgf, hl⟩
    have hc1 := hl.cell.1
    have hc2 := hl.cell.2
    by_cases hi2 : i < 8
    · have hxb : hs.getD i 0 < 256 := by
        rw [List.getD_eq_getElem?_getD, List.getElem?_eq_getElem (by omega)]
        exact hsb _ (List.getElem_mem _)
      have hgx : (bytesV hs)[i]? = some (.int .u8 (hs.getD i 0 : Nat)) := by
        rw [bytesV_get, List.getD_eq_getElem?_getD, List.getElem?_eq_getElem (by omega)]
        rfl
      have hst : hexF (hs.take (i + 1)) = hexF (hs.take i) ++ hexB (hs.getD i 0) := by
        rw [hexF, List.take_succ_eq_append_getElem (by omega), List.flatMap_append, List.getD_eq_getElem?_getD, List.getElem?_eq_getElem (by omega)]
        simp [hexF]
      generalize hs.getD i 0 = x at *
      have z4 := shr4 x hxb
      have z15 := and15 x hxb
      have x16 : x / 16 < 16 := by omega
      have xm : x % 16 < 16 := by omega
      simp +contextual (disch := first | (simp only [fr]; done) | omega | (simp only [Knx]; omega) | (apply Nat.le_antisymm <;> simp only [Knx] <;> omega) | fail) only [wpy, fD, reduceLE, reduceLT, reduceLeDiff, UInt8.reduceToNat, ↓reduceIte, reduceEqDiff, reduceAdd, reduceCtorEq, reduceToNat, Tryz.f7, e6, e21, e22, e23, hi2, hgb, hgx]
      refine draw_by [] (by kernel_rfl) ?_
      simp +contextual (disch := first | (simp only [fr]; done) | omega | (simp only [Knx]; omega) | (apply Nat.le_antisymm <;> simp only [Knx] <;> omega) | fail) only [wpy, fD, reduceLE, reduceLT, reduceLeDiff, UInt8.reduceToNat, ↓reduceIte, reduceEqDiff, reduceAdd, reduceCtorEq, reduceToNat, Tryz.f7, e6, e21, e22, e23, hi2, z4, z15, x16, xm]
      refine append_new (sv := l) (n0 := h2.nx) (by simp +contextual (disch := first | (simp only [fr]; done) | omega | (simp only [Knx]; omega) | (apply Nat.le_antisymm <;> simp only [Knx] <;> omega) | fail) only [wpy, fD, reduceLE, reduceLT, reduceLeDiff, UInt8.reduceToNat, ↓reduceIte, reduceEqDiff, reduceAdd, reduceCtorEq, reduceToNat]) ap35 ⟨.slice 5, by kernel_rfl, rfl⟩ hl (by simp +contextual (disch := first | (simp only [fr]; done) | omega | (simp only [Knx]; omega) | (apply Nat.le_antisymm <;> simp only [Knx] <;> omega) | fail) only [wpy, fD, reduceLE, reduceLT, reduceLeDiff, UInt8.reduceToNat, ↓reduceIte, reduceEqDiff, reduceAdd, reduceCtorEq, reduceToNat]) (n := 2) (by decide) rfl rfl ?_ (by decide) (fun k hk => by rw [fresh_def]; exact .inl (by omega)) hn' ?_
      · rw [bytesV_len, hexF_len, List.length_take]
        show _ + 2 ≤ _
        omega
      intro v h4 L ha4 hn4 hf4 hf5 _
      have hv1 := ha4.cell.1
      have hv2 := ha4.cell.2
      have hbl : b < h2.nx := by omega
      simp +contextual (disch := first | (simp only [fr]; done) | omega | (simp only [Knx]; omega) | (apply Nat.le_antisymm <;> simp only [Knx] <;> omega) | fail) only [wpy, fD, reduceLE, reduceLT, reduceLeDiff, UInt8.reduceToNat, ↓reduceIte, reduceEqDiff, reduceAdd, reduceCtorEq, reduceToNat, Tryz.f7, e3, e6, e21, e22, e23, hi2, hv1, hv2]
      refine ⟨(by intro p hp; cases hp), _, by omega, i + 1, v, rfl, by omega, rfl, rfl, ⟨by have := hx.1; omega, fun k hk => by rw [hf5 k (by have := hX2.1; omega), hx.2 k hk]⟩, by omega, by rw [hf5 b hbl]; exact hgb, by rw [hf5 h.nx hn2]; exact hgf, ?_⟩
      rw [hst, show bytesV (hexF (hs.take i) ++ hexB x) = bytesV (hexF (hs.take i)) ++ bytesV (hexB x) by simp [bytesV]]
      exact ha4
    · obtain rfl : i = 8 := by omega
      rcases hl with ⟨_, q⟩ | ⟨b', n', hb0', hb1', rfl, hn0, hg', hl'⟩
      · have := congrArg List.length q
        rw [bytesV_len, hexF_len, List.length_take, hsl] at this
        cases this
      have hln : n' = (hexF (hs.take 8)).length := by rw [bytesV_len, Nat.mul_one] at hl'; exact hl'.symm
      have hrd : rdN (h'.get b') 0 n' = some (hexF (hs.take 8)) := by rw [hg', hln]; exact rdN_bytes (hexF_bytes _)
      simp +contextual (disch := first | (simp only [fr]; done) | omega | (simp only [Knx]; omega) | (apply Nat.le_antisymm <;> simp only [Knx] <;> omega) | fail) only [wpy, fD, reduceLE, reduceLT, reduceLeDiff, UInt8.reduceToNat, ↓reduceIte, reduceEqDiff, reduceAdd, reduceCtorEq, reduceToNat, Tryz.f7, e3, e6, e21, e22, e23, hi2, hrd, cvBS_slice, cvBSb_some, hgf]
      exact ⟨hx.put (Nat.le_refl _) _, by rw [f1, f2]⟩
  · rw [if_neg hf]
    have hf' := eq_false hf
    simp +contextual (disch := first | (simp only [fr]; done) | omega | (simp only [Knx]; omega) | (apply Nat.le_antisymm <;> simp only [Knx] <;> omega) | exact dok (by kernel_rfl)) only [draw_calm, draw_calmA, wpy, fD, reduceLE, reduceLT, reduceLeDiff, UInt8.reduceToNat, ↓reduceIte, reduceEqDiff, reduceAdd, reduceCtorEq, reduceToNat, Tryz.f7, dagg_neq, hf', g1, n1]
    exact ⟨.inr hX1.1, ((hX1.push _).put hX1.1 _).put (Nat.le_refl _) _⟩
end
end Go.Proofs.YtkibhdbmamfjcaaGreatDoor
