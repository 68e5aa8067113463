/-
  Package-level variables that a row lists: what the world holds there; functions that stand in at one of several closures.
-/
import Derived.Test.YthhdkonpejmgcaaGreatDoorLy1
import Derived.ProofKit
import Derived.OpenShut
import Derived.LaidMore
import Derived.Lay
set_option linter.unusedSimpArgs false
set_option linter.unusedVariables false
namespace Go.Lx
noncomputable section
open Go.ChangeShapes Go.WideShapes Go.ChangeAt Go.RowKit

theorem laid_vars {P : Program} {w : World} : ∀ {laid : List (String × DataW Unit)} {ps : List MemPlace}, DataW.LaidVars P w laid ps → ∀ {name : String} {d : DataW Unit}, (name, d) ∈ laid →
    ∃ g t cs fuel p, P.globalNamed name = some g ∧ (P.globals[g]?).map (·.type) = some t ∧ w.var? P name = some cs ∧ DataW.trod (fun _ => ()) P w 0 (fun _ => true) false fuel t cs.toList = some (d, p)
  | [], ps, h, name, d, hm => by cases hm
  | (n, d') :: r, ps, h, name, d, hm => by
    obtain ⟨g, t, cs, fuel, p, q, h1, h2, h3, h4, h5, h6⟩ := h
    cases hm with
    | head => exact ⟨g, t, cs, fuel, p, h1, h2, h3, h4⟩
    | tail _ hm => exact laid_vars h5 hm

theorem var_block {P : Program} {w : World} {n : String} {g : Nat} {cs : Array Value} (hg : P.globalNamed n = some g) (h : w.var? P n = some cs) : ∃ e frz, w.heap[g]? = some (.cells cs e frz) := by
  simp only [World.var?, hg, Option.bind_some] at h
  split at h
  · rename_i c e f hb
    injection h with h
    subst h
    exact ⟨e, f, hb⟩
  · cases h

/-- what a block must hold that stands for a known variable -/
def Holds (w : World) (g : Nat) (c : List V) : Prop := ∃ rc e frz, w.heap[g]? = some (.cells rc e frz) ∧ ∀ (i : Nat) (v : V), c[i]? = some v → ∃ r, rc[i]? = some r ∧ ∀ μ ν, VRel μ ν v r



theorem Globs.add {gl : T (List V)} {w : World} {g : Nat} {c : List V} (h : Globs gl (fun _ => Option.none) .leaf w) (hc : Holds w g c) (hne : c.isEmpty = false := by kernel_rfl) (hnt : (c.length == 20) = false := by kernel_rfl) : Globs (gl.set g (some c)) (fun _ => Option.none) .leaf w where
  there := fun g' c' h' => by
    rw [T.get_set] at h'
    split at h'
    · rename_i e; subst e; injection h' with h'; subst h'; exact hc
    · exact h.there g' c' h'
  apart := fun g c k p h1 h2 => by cases h2
  face := fun g' h' => by
    rw [T.get_set] at h'
    split at h'
    · injection h' with h'; subst h'; cases hne
    · exact h.face g' h'
  tab := fun g' c' rc e frz h' hl hw => by
    rw [T.get_set] at h'
    split at h'
    · injection h' with h'; subst h'; simp [hl] at hnt
    · exact h.tab g' c' rc e frz h' hl hw
/-- a table of twenty -/
theorem Globs.addTab {gl : T (List V)} {w : World} {g : Nat} {c : List V} (h : Globs gl (fun _ => Option.none) .leaf w) (hc : Holds w g c) (hs : ∀ rc e frz, w.heap[g]? = some (.cells rc e frz) → rc.size = 20) (hne : c.isEmpty = false := by kernel_rfl) : Globs (gl.set g (some c)) (fun _ => Option.none) .leaf w where
  there := fun g' c' h' => by
    rw [T.get_set] at h'
    split at h'
    · rename_i e; subst e; injection h' with h'; subst h'; exact hc
    · exact h.there g' c' h'
  apart := fun g c k p h1 h2 => by cases h2
  face := fun g' h' => by
    rw [T.get_set] at h'
    split at h'
    · injection h' with h'; subst h'; cases hne
    · exact h.face g' h'
  tab := fun g' c' rc e frz h' hl hw => by
    rw [T.get_set] at h'
    split at h'
    · rename_i e'; subst e'; exact hs rc e frz hw
    · exact h.tab g' c' rc e frz h' hl hw
/-- a variable of an interface's type: that there is one -/
def Face (w : World) (g : Nat) : Prop := ∃ ev, w.cell? ⟨g, 0, none⟩ = some ev ∧ (ev = .nilIface ∨ ∃ te pe, ev = .iface te pe)
theorem Globs.addFace {gl : T (List V)} {w : World} {g : Nat} (h : Globs gl (fun _ => Option.none) .leaf w) (hc : Holds w g []) (hf : Face w g) : Globs (gl.set g (some [])) (fun _ => Option.none) .leaf w where
  there := fun g' c' h' => by
    rw [T.get_set] at h'
    split at h'
    · rename_i e; subst e; injection h' with h'; subst h'; exact hc
    · exact h.there g' c' h'
  apart := fun g c k p h1 h2 => by cases h2
  face := fun g' h' => by
    rw [T.get_set] at h'
    split at h'
    · rename_i e; subst e; exact hf
    · exact h.face g' h'
  tab := fun g' c' rc e frz h' hl hw => by
    rw [T.get_set] at h'
    split at h'
    · injection h' with h'; subst h'; cases hl
    · exact h.tab g' c' rc e frz h' hl hw

/-- the numbers of a listed row -/
def listedInts : DataW Unit → List Int
  | .agg l => l.map fun | .lit (.int _ n) => n | _ => 0
  | .lit (.int _ n) => [n]
  | _ => []

theorem laid_ints {P : Program} {w : World} {laid : List (String × DataW Unit)} (h : laidMet P laid w) {name : String} {d : DataW Unit} (hm : (name, d) ∈ laid) {k : IntKind} {n g t e : Nat} (hd : d = .agg ((listedInts d).map fun n => .lit (.int k n))) (hg : P.globalNamed name = some g)
    (ht : (P.globals[g]?).map (·.type) = some t) (hu : P.underlying t = some (.array n e)) (he : P.underlying e = some (.int k)) (hc : P.cellsOf e = 1) : Holds w g ((listedInts d).map (V.int k)) := by
  obtain ⟨ps, hl, _, _⟩ := h
  obtain ⟨g', t', cs, fuel, p, h1, h2, h3, h4⟩ := laid_vars hl hm
  rw [hg] at h1; injection h1 with h1; subst h1
  rw [ht] at h2; injection h2 with h2; subst h2
  obtain ⟨el, frz, hb⟩ := var_block hg h3
  obtain ⟨xs, m, _, ex, _, hxl, hel⟩ := DataW.trod_array hu h4
  refine ⟨cs, el, frz, hb, fun i v hi => ?_⟩
  rw [List.getElem?_map] at hi
  cases hni : (listedInts d)[i]? with
  | none => rw [hni] at hi; cases hi
  | some z =>
    rw [hni] at hi
    injection hi with hi; subst hi
    have e3 : (xs.map (·.1)) = (listedInts d).map fun n => .lit (.int k n) := by
      have e4 := (Prod.mk.inj ex).1
      have e5 : DataW.agg (xs.map (·.1)) = DataW.agg ((listedInts d).map fun n => .lit (.int k n)) := e4.symm.trans hd
      exact DataW.agg.inj e5
    have hlen : i < (listedInts d).length := (List.getElem?_eq_some_iff.1 hni).1
    have hxi : i < xs.length := by have := congrArg List.length e3; simp at this; omega
    have hE := hel i (by omega)
    rw [hc, Nat.mul_one, List.getElem?_eq_getElem hxi] at hE
    obtain ⟨z', e1, e2, _⟩ := DataW.trod_int he hE
    have e4 : (xs.map (·.1))[i]? = ((listedInts d).map fun n => (DataW.lit (.int k n) : DataW Unit))[i]? := by rw [e3]
    rw [List.getElem?_map, List.getElem?_map, List.getElem?_eq_getElem hxi, hni, e2] at e4
    simp only [Option.map_some, Option.some.injEq, DataW.lit.injEq, Lit.int.injEq, true_and] at e4
    subst e4
    refine ⟨.int k z', ?_, fun μ ν => .int _ _⟩
    have h0 : ((cs.toList.drop i).take 1)[0]? = some (.int k z') := by rw [e1]; rfl
    simpa using h0

theorem laid_int {P : Program} {w : World} {laid : List (String × DataW Unit)} (h : laidMet P laid w) {name : String} {d : DataW Unit} (hm : (name, d) ∈ laid) {k : IntKind} {z : Int} {g t : Nat} (hd : d = .lit (.int k z)) (hg : P.globalNamed name = some g)
    (ht : (P.globals[g]?).map (·.type) = some t) (hu : P.underlying t = some (.int k)) : Holds w g [.int k z] := by
  obtain ⟨ps, hl, _, _⟩ := h
  obtain ⟨g', t', cs, fuel, p, h1, h2, h3, h4⟩ := laid_vars hl hm
  rw [hg] at h1; injection h1 with h1; subst h1
  rw [ht] at h2; injection h2 with h2; subst h2
  obtain ⟨el, frz, hb⟩ := var_block hg h3
  obtain ⟨z', e1, e2, _⟩ := DataW.trod_int hu h4
  subst hd
  simp only [Prod.mk.injEq, DataW.lit.injEq, Lit.int.injEq, true_and] at e2
  obtain ⟨rfl, _⟩ := e2
  refine ⟨cs, el, frz, hb, fun i v hi => ?_⟩
  cases i with
  | zero =>
    injection hi with hi; subst hi
    refine ⟨.int k z, ?_, fun μ ν => .int _ _⟩
    have : cs.toList[0]? = some (.int k z) := by rw [e1]; rfl
    simpa using this
  | succ i => simp at hi

/-! ### One function at several closures -/

def atClosure (g : FuncId) (a b : List V → M V) (vs : List V) : M V := match vs with
  | [.func f _ _] => bif Nat.beq f g then a vs else b vs
  | _ => b vs

theorem extSum_at {P : Program} {gl : T (List V)} {f g : FuncId} {a b : List V → M V} (ha : ExtSum P gl f a) (hb : ExtSum P gl f b) : ExtSum P gl f (atClosure g a b) := by
  have key : ∀ vs, atClosure g a b vs = a vs ∨ atClosure g a b vs = b vs := by
    intro vs
    unfold atClosure
    split
    · rename_i f' _ _
      cases Nat.beq f' g
      · exact .inr rfl
      · exact .inl rfl
    · exact .inr rfl
  refine ⟨fun vs => ?_, fun vs v s s' w μ ν rs h => ?_⟩
  · rcases key vs with e | e
    · rw [e]; exact ha.1 vs
    · rw [e]; exact hb.1 vs
  · rcases key vs with e | e
    · rw [e] at h; exact ha.2 vs v s s' w μ ν rs h
    · rw [e] at h; exact hb.2 vs v s s' w μ ν rs h

end
end Go.Lx
