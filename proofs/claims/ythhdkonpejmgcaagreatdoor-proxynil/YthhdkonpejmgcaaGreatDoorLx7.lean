/-
  From a run of the machine to a given statement: a law's call returns true, and nothing that was there turns.
-/
import Derived.Test.YthhdkonpejmgcaaGreatDoorLx6
import Derived.WalkKit
import Derived.ProofKit
import Derived.OpenShut
set_option linter.unusedSimpArgs false
set_option linter.unusedVariables false
namespace Go.Lx
noncomputable section
open Go.ChangeShapes Go.WideShapes Go.ChangeAt Go.RowKit

def st0 : St := ⟨.leaf, 0, []⟩

def yes (r : R V) : Bool := match r with
  | .ok (.bool b) _ => b
  | _ => false

theorem yes_ok {r : R V} (h : yes r = true) : ∃ s, r = .ok (.bool true) s := by
  cases r with
  | fail w => cases h
  | ok v s =>
    cases v <;> first | (cases h; done) | skip
    rename_i b
    have : b = true := h
    subst this
    exact ⟨s, rfl⟩

/-- a call of a function with a body, gone into -/
theorem callM_calls (c : Cfg) (hm : c.P.follows .mixedOrders = true) (hs : SumOk c) {n : Nat} {f : FuncId} {vs : List V} {v : V} {s s' : St} {w : World} {μ : Mu} {ν : Nat → Value} {rs : List Value} (h : callM c (n + 1) f vs s = .ok v s') (hsu : c.sum f = none)
    (hr : Rel c.P μ ν s.heap w.heap) (hf : Fresh μ s s') (hg : Globs c.gl μ s.heap w) (ha : VsRel μ ν vs rs) :
    Calls c.P f ⟨rs⟩ w fun e w' => ∃ r, e = .returned r ∧ ∃ μ', VRel μ' ν v r ∧ StepOk c.P μ ν s.heap s.next w μ' s'.heap s'.next w' := by
  unfold callM at h
  rw [hsu] at h
  simp only at h
  cases hfn : c.P.funcs[f]? with
  | none => rw [hfn] at h; exact (err_ok h).elim
  | some fn =>
    rw [hfn] at h
    simp only at h
    cases hnm : fn.name == "runtime.NumGoroutine"
    case true => rw [hnm, cond_true] at h; exact (err_ok h).elim
    rw [hnm, cond_false] at h
    cases hb : fn.body with
    | none => rw [hb] at h; exact (err_ok h).elim
    | some code =>
      rw [hb] at h
      exact sim_body hm (callM_sim c hm hs n) (local_call (fun f g hg => (hs f g hg).1) n) hfn hb h hr hf hg ha

theorem rel_empty {P : Program} {μ : Mu} {ν : Nat → Value} {H : Array Obj} : Rel P μ ν .leaf H :=
  ⟨fun k o h => by simp [T.get] at h, fun k k' o o' p p' h => by simp [T.get] at h⟩

/-- a law that was run to its end, on arguments that are not looked into -/
theorem law_calls_g (c : Cfg) (hm : c.P.follows .mixedOrders = true) (hs : SumOk c) {n : Nat} {f : FuncId} {vs : List V} {ν : Nat → Value} {rs : List Value} (h : yes (callM c (n + 1) f vs st0) = true) (hsu : c.sum f = none)
    (ha : VsRel (fun _ => none) ν vs rs) (w : World) (hg : Globs c.gl (fun _ => none) .leaf w) : Calls c.P f ⟨rs⟩ w fun e w' => e = .returned (.bool true) ∧ Below w.heap.size w w' := by
  obtain ⟨s', h'⟩ := yes_ok h
  refine (callM_calls c hm hs h' hsu rel_empty (fun _ _ _ => rfl) hg ha).mono ?_
  rintro e w' ⟨r, rfl, μ', hv, st⟩
  cases hv
  exact ⟨rfl, st.os, st.tape, st.output, st.size, fun k hk => st.block k hk fun _ _ h => by cases h⟩

/-- a call that was run to its end out of blocks that came in and that may not be written: what it answers, and nothing that was there turns -/
theorem calls_r (c : Cfg) (hm : c.P.follows .mixedOrders = true) (hs : SumOk c) {n n0 : Nat} {f : FuncId} {vs : List V} {ν : Nat → Value} {rs : List Value} {h0 : T Ob} {v : V} {s' : St} {μ : Mu} (h : callM c (n + 1) f vs ⟨h0, n0, []⟩ = .ok v s') (hsu : c.sum f = none) (w : World)
    (hr : Rel c.P μ ν h0 w.heap) (hfr : ∀ k, n0 ≤ k → μ k = none) (hro : ∀ k p, μ k = some p → ∃ x, h0.get k = some (.ro x)) (ha : VsRel μ ν vs rs) (hg : Globs c.gl μ h0 w) : Calls c.P f ⟨rs⟩ w fun e w' => ∃ r μ', e = .returned r ∧ VRel μ' ν v r ∧ Below w.heap.size w w' := by
  refine (callM_calls c hm hs h hsu hr (fun k hk _ => hfr k hk) hg ha).mono ?_
  rintro e w' ⟨r, rfl, μ', hv, st⟩
  refine ⟨r, μ', rfl, hv, st.os, st.tape, st.output, st.size, fun b hb => ?_⟩
  by_cases hx : ∃ k p, μ k = some p ∧ p.blk = b
  · obtain ⟨k, p, hp, rfl⟩ := hx
    obtain ⟨x, hx⟩ := hro k p hp
    exact (st.ro k x p hx hp).2
  · exact st.block b hb fun k p hp e => hx ⟨k, p, hp, e⟩

/-- a law that was run to its end out of blocks that came in and that may not be written -/
theorem law_calls_r (c : Cfg) (hm : c.P.follows .mixedOrders = true) (hs : SumOk c) {n n0 : Nat} {f : FuncId} {vs : List V} {ν : Nat → Value} {rs : List Value} {h0 : T Ob} {s' : St} {μ : Mu} (h : callM c (n + 1) f vs ⟨h0, n0, []⟩ = .ok (.bool true) s') (hsu : c.sum f = none) (w : World)
    (hr : Rel c.P μ ν h0 w.heap) (hfr : ∀ k, n0 ≤ k → μ k = none) (hro : ∀ k p, μ k = some p → ∃ x, h0.get k = some (.ro x)) (ha : VsRel μ ν vs rs) (hg : Globs c.gl μ h0 w) : Calls c.P f ⟨rs⟩ w fun e w' => e = .returned (.bool true) ∧ Below w.heap.size w w' := by
  refine (callM_calls c hm hs h hsu hr (fun k hk _ => hfr k hk) hg ha).mono ?_
  rintro e w' ⟨r, rfl, μ', hv, st⟩
  cases hv
  refine ⟨rfl, st.os, st.tape, st.output, st.size, fun b hb => ?_⟩
  by_cases hx : ∃ k p, μ k = some p ∧ p.blk = b
  · obtain ⟨k, p, hp, rfl⟩ := hx
    obtain ⟨x, hx⟩ := hro k p hp
    exact (st.ro k x p hx hp).2
  · exact st.block b hb fun k p hp e => hx ⟨k, p, hp, e⟩

theorem law_calls (c : Cfg) (hm : c.P.follows .mixedOrders = true) (hs : SumOk c) (hng : c.gl = .leaf) {n : Nat} {f : FuncId} {vs : List V} {ν : Nat → Value} {rs : List Value} (h : yes (callM c (n + 1) f vs st0) = true) (hsu : c.sum f = none)
    (ha : VsRel (fun _ => none) ν vs rs) (w : World) : Calls c.P f ⟨rs⟩ w fun e w' => e = .returned (.bool true) ∧ Below w.heap.size w w' :=
  law_calls_g c hm hs h hsu ha w (by rw [hng]; exact Globs.none)

/-! ### Arguments that are not looked into -/

theorem Cell_one {P : Program} {w : World} {r : Reach} {base : Nat} {t : TypeId} {v : Value} (h : Cell.okWide P w r base t v) : v.oneCell' = true := by
  unfold Cell.okWide Cell.ok at h
  cases v <;> first | rfl | (cases hd : P.underlying t with
    | none => simp [hd] at h
    | some d => cases d <;> simp [hd] at h)

def isStructD : Option TypeDesc → Bool
  | some (.struct _) => true
  | _ => false

theorem isStructD_ok {o : Option TypeDesc} (h : isStructD o = true) : ∃ fs, o = some (.struct fs) := by
  cases o with
  | none => cases h
  | some d => cases d <;> first | (cases h; done) | exact ⟨_, rfl⟩

/-- a struct's cells -/
theorem struct_cells {P : Program} {w : World} {r : Reach} {base : Nat} {t : TypeId} {v : Value} {fs : Array Field} (hd : P.underlying t = some (.struct fs)) (h : Value.okWide P w r base t v) : ∃ cs : List Value, v = .agg ⟨cs⟩ ∧ cs.length = P.cellsOf t ∧ ∀ x ∈ cs, x.oneCell' = true := by
  unfold Value.okWide at h
  rw [hd] at h
  obtain ⟨cs, rfl, h1, ts, h2, h3, h4⟩ := h
  refine ⟨cs.toList, rfl, by simpa using h1, fun x hx => ?_⟩
  obtain ⟨i, hi, rfl⟩ := List.getElem_of_mem hx
  obtain ⟨u, _, h5⟩ := h4 i cs.toList[i] (by simp at hi; simp [hi])
  exact Cell_one h5

theorem syms_rel {μ : Mu} : ∀ (cs : List Value) (k : Nat) (ν : Nat → Value), (∀ x ∈ cs, x.oneCell' = true) → (∀ i x, cs[i]? = some x → ν (k + i) = x) → VsRel μ ν ((List.range' k cs.length).map V.sym) cs
  | [], k, ν, _, _ => .nil
  | x :: cs, k, ν, h1, h2 => by
    have hx : ν k = x := h2 0 x rfl
    refine .cons ?_ (syms_rel cs (k + 1) ν (fun y hy => h1 y (by simp [hy])) fun i y hi => by rw [show k + 1 + i = k + (i + 1) by omega]; exact h2 (i + 1) y (by simpa using hi))
    have := VRel.sym (μ := μ) (ν := ν) k (by rw [hx]; exact h1 x (by simp))
    rw [hx] at this
    exact this

/-- a struct whose cells are not looked into -/
def symAgg (k n : Nat) : V := .agg ((List.range' k n).map V.sym)

theorem symAgg_rel {μ : Mu} {cs : List Value} (h : ∀ x ∈ cs, x.oneCell' = true) : VsRel μ (fun i => cs.getD i undef) [symAgg 0 cs.length] [.agg ⟨cs⟩] := by
  refine .cons (.agg (syms_rel cs 0 _ h fun i x hi => ?_)) .nil
  rw [Nat.zero_add, List.getD_eq_getElem?_getD, hi]
  rfl

/-! ### The statement's end -/

section
variable {H : Type} {enc : TypeId × Value → H} {P : Program}

theorem trodAll_below (hl : laidOutB P = true) {W W' : World} (hb : Below W.heap.size W W') : ∀ {ts : List TypeId} {vs : List Value} {ds : List (DataW H)} {ps : List MemPlace},
    (∀ t ∈ ts, P.readableRec t = true ∧ t < P.types.size) → DataW.TrodAll enc P W 0 (fun _ => true) true ts vs ds ps → (∀ x ∈ ps, x.block < W.heap.size) → DataW.TrodAll enc P W' 0 (fun b => decide (b < W.heap.size)) true ts vs ds ps
  | [], [], [], ps, _, h, _ => h
  | t :: ts, v :: vs, d :: ds, ps, hr, h, hlt => by
    obtain ⟨p, q, h1, h2, rfl⟩ := h
    have ht := hr t (by simp)
    exact ⟨p, q, Below.trod hl ht.1 ht.2 h1 hb (fun x hx => hlt x (by simp [hx])), trodAll_below hl hb (fun u hu => hr u (by simp [hu])) h2 fun x hx => hlt x (by simp [hx]), rfl⟩
  | [], [], _ :: _, _, _, h, _ => h.elim
  | [], _ :: _, _, _, _, h, _ => h.elim
  | _ :: _, [], _, _, _, h, _ => h.elim
  | _ :: _, _ :: _, [], _, _, h, _ => h.elim

/-- true was answered, and nothing that was there has turned -/
theorem post_true (hl : laidOutB P = true) {f : Func} {s : ChangeSpec} {W W' : World} {args : Array Value} {ds gs : List (DataW H)} {before : List MemPlace} {t : TypeId}
    (hW : DataW.Whole enc P f.params.toList s.vars false W args.toList ds gs before) (hb : Below W.heap.size W W') (hv : s.vars = []) (hf : ∀ t ∈ f.params.toList, P.readableRec t = true ∧ t < P.types.size)
    (ht : f.resultTypes = #[t]) (hd : P.underlying t = some .bool) (hres : (s.fn H ds).results = [.lit (.bool true)]) (hargs : (s.fn H ds).args = ds) (hvars : (s.fn H ds).vars = []) :
    s.post enc P f false true false false W args (.bool true) W' := by
  have hlt := hW.lt
  have hW' := hW
  obtain ⟨p, q, hA, hV, rfl, hfz, hnd⟩ := hW
  rw [hv] at hV
  obtain ⟨rfl, rfl⟩ := trodVars_none hV
  refine ⟨ds, [], _, [], p, [], hW', ?_, ?_, ?_, hb.frame _, fun h => by cases h⟩
  · rw [List.append_nil, hres, ht]
    exact trodAll_cons_mk (shut_bool hd true) trodAll_mk0
  · rw [List.append_nil, hargs]
    exact trodAll_below hl hb hf hA fun x hx => hlt x (by simp [hx])
  · rw [List.append_nil, hvars, hv]
    exact rfl
end

end
end Go.Lx
