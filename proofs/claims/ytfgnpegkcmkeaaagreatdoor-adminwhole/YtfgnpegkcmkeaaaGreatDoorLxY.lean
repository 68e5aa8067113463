/-
  From a run of the machine to a given statement: a law's call returns true, and nothing that was there turns.
-/
import Derived.Test.YtfgnpegkcmkeaaaGreatDoorLxX
import Derived.WalkKit
import Derived.ProofKit
import Derived.OpenShut
set_option linter.unusedSimpArgs false
set_option linter.unusedVariables false
namespace Go.Lx
noncomputable section
open Go.ChangeShapes Go.WideShapes Go.ChangeAt Go.RowKit
def st0 : St := ⟨.leaf, 0, []⟩
def yes (r : R V) : Bool := match r with
 | .ok (.bool b) _ => b
 | _ => false
theorem yes_ok {r : R V} (h : yes r = true) : ∃ s, r = .ok (.bool true) s := by
 cases r with
 | fail w => cases h
 | ok v s =>
   cases v <;> first | (cases h; done) | skip
   rename_i b
   have : b = true := h
   subst this
   exact ⟨s, rfl⟩
theorem callM_calls (c : Cfg) (hm : c.P.follows .mixedOrders = true) (hs : SumOk c) {n : Nat} {f : FuncId} {vs : List V} {v : V} {s s' : St} {w : World} {μ : Mu} {ν : Nat → Value} {rs : List Value} (h : callM c (n + 1) f vs s = .ok v s') (hsu : c.sum f = none)
  (hr : Rel c.P μ ν s.heap w.heap) (hf : Fresh μ s s') (hg : Globs c.gl μ s.heap w) (ha : VsRel μ ν vs rs) :
  Calls c.P f ⟨rs⟩ w fun e w' => ∃ r, e = .returned r ∧ ∃ μ', VRel μ' ν v r ∧ StepOk c.P μ ν s.heap s.next w μ' s'.heap s'.next w' := by
 unfold callM at h
 rw [hsu] at h
 simp only at h
 cases hfn : c.P.funcs[f]? with
 | none => rw [hfn] at h; exact (err_ok h).elim
 | some fn =>
   rw [hfn] at h
   simp only at h
   cases hnm : fn.name == "runtime.NumGoroutine"
   case true => rw [hnm, cond_true] at h; exact (err_ok h).elim
   rw [hnm, cond_false] at h
   cases hb : fn.body with
   | none => rw [hb] at h; exact (err_ok h).elim
   | some code =>
     rw [hb] at h
     exact sim_body hm (callM_sim c hm hs n) (local_call (fun f g hg => (hs f g hg).1) n) hfn hb h hr hf hg ha
theorem rel_empty {P : Program} {μ : Mu} {ν : Nat → Value} {H : Array Obj} : Rel P μ ν .leaf H :=
 ⟨fun k o h => by simp [T.get] at h, fun k k' o o' p p' h => by simp [T.get] at h⟩
theorem law_calls_r (c : Cfg) (hm : c.P.follows .mixedOrders = true) (hs : SumOk c) {n n0 : Nat} {f : FuncId} {vs : List V} {ν : Nat → Value} {rs : List Value} {h0 : T Ob} {s' : St} {μ : Mu} (h : callM c (n + 1) f vs ⟨h0, n0, []⟩ = .ok (.bool true) s') (hsu : c.sum f = none) (w : World)
  (hr : Rel c.P μ ν h0 w.heap) (hfr : ∀ k, n0 ≤ k → μ k = none) (hro : ∀ k p, μ k = some p → ∃ x, h0.get k = some (.ro x)) (ha : VsRel μ ν vs rs) (hg : Globs c.gl μ h0 w) : Calls c.P f ⟨rs⟩ w fun e w' => e = .returned (.bool true) ∧ Below w.heap.size w w' := by
 refine (callM_calls c hm hs h hsu hr (fun k hk _ => hfr k hk) hg ha).mono ?_
 rintro e w' ⟨r, rfl, μ', hv, st⟩
 cases hv
 refine ⟨rfl, st.os, st.tape, st.output, st.size, fun b hb => ?_⟩
 by_cases hx : ∃ k p, μ k = some p ∧ p.blk = b
 ·obtain ⟨k, p, hp, rfl⟩ := hx
  obtain ⟨x, hx⟩ := hro k p hp
  exact (st.ro k x p hx hp).2
 ·exact st.block b hb fun k p hp e => hx ⟨k, p, hp, e⟩
section
variable {H : Type} {enc : TypeId × Value → H} {P : Program}
theorem trodAll_below (hl : laidOutB P = true) {W W' : World} (hb : Below W.heap.size W W') : ∀ {ts : List TypeId} {vs : List Value} {ds : List (DataW H)} {ps : List MemPlace},
  (∀ t ∈ ts, P.readableRec t = true ∧ t < P.types.size) → DataW.TrodAll enc P W 0 (fun _ => true) true ts vs ds ps → (∀ x ∈ ps, x.block < W.heap.size) → DataW.TrodAll enc P W' 0 (fun b => decide (b < W.heap.size)) true ts vs ds ps
 | [], [], [], ps, _, h, _ => h
 | t :: ts, v :: vs, d :: ds, ps, hr, h, hlt => by
   obtain ⟨p, q, h1, h2, rfl⟩ := h
   have ht := hr t (by simp)
   exact ⟨p, q, Below.trod hl ht.1 ht.2 h1 hb (fun x hx => hlt x (by simp [hx])), trodAll_below hl hb (fun u hu => hr u (by simp [hu])) h2 fun x hx => hlt x (by simp [hx]), rfl⟩
 | [], [], _ :: _, _, _, h, _ => h.elim
 | [], _ :: _, _, _, _, h, _ => h.elim
 | _ :: _, [], _, _, _, h, _ => h.elim
 | _ :: _, _ :: _, [], _, _, h, _ => h.elim
theorem post_true (hl : laidOutB P = true) {f : Func} {s : ChangeSpec} {W W' : World} {args : Array Value} {ds gs : List (DataW H)} {before : List MemPlace} {t : TypeId}
  (hW : DataW.Whole enc P f.params.toList s.vars false W args.toList ds gs before) (hb : Below W.heap.size W W') (hv : s.vars = []) (hf : ∀ t ∈ f.params.toList, P.readableRec t = true ∧ t < P.types.size)
  (ht : f.resultTypes = #[t]) (hd : P.underlying t = some .bool) (hres : (s.fn H ds).results = [.lit (.bool true)]) (hargs : (s.fn H ds).args = ds) (hvars : (s.fn H ds).vars = []) :
  s.post enc P f false true false false W args (.bool true) W' := by
 have hlt := hW.lt
 have hW' := hW
 obtain ⟨p, q, hA, hV, rfl, hfz, hnd⟩ := hW
 rw [hv] at hV
 obtain ⟨rfl, rfl⟩ := trodVars_none hV
 refine ⟨ds, [], _, [], p, [], hW', ?_, ?_, ?_, hb.frame _, fun h => by cases h⟩
 ·rw [List.append_nil, hres, ht]
  exact trodAll_cons_mk (shut_bool hd true) trodAll_mk0
 ·rw [List.append_nil, hargs]
  exact trodAll_below hl hb hf hA fun x hx => hlt x (by simp [hx])
 ·rw [List.append_nil, hvars, hv]
  exact rfl
end
end
end Go.Lx
