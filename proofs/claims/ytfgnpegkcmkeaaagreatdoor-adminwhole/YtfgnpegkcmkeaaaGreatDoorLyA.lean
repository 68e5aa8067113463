/-
  slices.Collect and slices.AppendSeq over maps.Keys, the keys of an integer kind: turned from the worked proofs of the toy ggz (keys of a string's kind), over any program that lays the bodies.
-/
import Derived.Shelf.SlIter.Collect
import Derived.Shelf.SlIter.Sorted
import Derived.Maps.RangeWalk
set_option linter.unusedSimpArgs false
set_option linter.unusedVariables false
namespace Go.Proofs
open Go.RowKit Go.Maps Go.Sort Go.Shelf
structure KeyLay (P : Program) (ρ : Ren) (kd : IntKind) (bs : Nat) : Prop where
 mixed : P.follows .mixedOrders = true
 f6 : Bears P (ρ.f 6) (SlBodyZ.n6 ρ)
 f8 : Bears P (ρ.f 8) (SlBodyZ.n8 ρ)
 f10 : Bears P (ρ.f 10) (SlBodyZ.n10 ρ)
 f11 : Bears P (ρ.f 11) (SlBodyZ.n11 ρ)
 t0 : P.underlying (ρ.t 0) = some (TypeDesc.tuple #[])
 a0 : ∀ w, (isAgg (ρ.t 0)).run P w = .ok false w
 z0 : ∀ w, (Go.sizeOf (ρ.t 0)).run P w = .ok 1 w
 v0 : ∀ w, (zeroValue (ρ.t 0)).run P w = .ok (Value.tuple #[]) w
 t4 : P.underlying (ρ.t 4) = some (TypeDesc.bool)
 a4 : ∀ w, (isAgg (ρ.t 4)).run P w = .ok false w
 z4 : ∀ w, (Go.sizeOf (ρ.t 4)).run P w = .ok 1 w
 v4 : ∀ w, (zeroValue (ρ.t 4)).run P w = .ok (Value.bool false) w
 t23 : P.underlying (ρ.t 23) = some (TypeDesc.map (ρ.t 26) (ρ.t 3))
 a23 : ∀ w, (isAgg (ρ.t 23)).run P w = .ok false w
 z23 : ∀ w, (Go.sizeOf (ρ.t 23)).run P w = .ok 1 w
 v23 : ∀ w, (zeroValue (ρ.t 23)).run P w = .ok (Value.map none) w
 t24 : P.underlying (ρ.t 24) = some (TypeDesc.slice (ρ.t 26))
 a24 : ∀ w, (isAgg (ρ.t 24)).run P w = .ok false w
 z24 : ∀ w, (Go.sizeOf (ρ.t 24)).run P w = .ok 1 w
 v24 : ∀ w, (zeroValue (ρ.t 24)).run P w = .ok (Value.slice none 0 0) w
 t26 : P.underlying (ρ.t 26) = some (TypeDesc.int kd)
 a26 : ∀ w, (isAgg (ρ.t 26)).run P w = .ok false w
 z26 : ∀ w, (Go.sizeOf (ρ.t 26)).run P w = .ok 1 w
 v26 : ∀ w, (zeroValue (ρ.t 26)).run P w = .ok (Value.int kd 0) w
 t28 : P.underlying (ρ.t 28) = some (TypeDesc.func #[ρ.t 33] #[] false)
 a28 : ∀ w, (isAgg (ρ.t 28)).run P w = .ok false w
 z28 : ∀ w, (Go.sizeOf (ρ.t 28)).run P w = .ok 1 w
 v28 : ∀ w, (zeroValue (ρ.t 28)).run P w = .ok (Value.nilFunc) w
 t33 : P.underlying (ρ.t 33) = some (TypeDesc.func #[ρ.t 26] #[ρ.t 4] false)
 a33 : ∀ w, (isAgg (ρ.t 33)).run P w = .ok false w
 z33 : ∀ w, (Go.sizeOf (ρ.t 33)).run P w = .ok 1 w
 v33 : ∀ w, (zeroValue (ρ.t 33)).run P w = .ok (Value.nilFunc) w
 i26 : (P.info? (ρ.t 26)).map (fun i => (i.zero, i.size, i.bytes)) = some (some (.int kd 0), 1, bs)
def intOf : Lit → Int
 | .int _ n => n
 | _ => 0
def intKeys {H : Type} : DataW H → List Int
 | .map es => es.map fun p => intOf p.1
 | _ => []
def CollectedI {H : Type} (kd : IntKind) (D0 : DataW H) (left : Lit → Bool) (ss : List Int) : Prop := ss.Nodup ∧ ∀ x, x ∈ ss ↔ (has D0 (.int kd x) = true ∧ left (.int kd x) = false)
theorem perm_intKeys {H : Type} {kd : IntKind} {es : List (Lit × DataW H)} (hp : es.Pairwise (fun p q => p.1 ≠ q.1)) (hk : ∀ p ∈ es, ∃ x, p.1 = .int kd x) {ss : List Int} (hnd : ss.Nodup) (hm : ∀ x, x ∈ ss ↔ has (.map es) (.int kd x) = true) :
  ss.Perm (intKeys (.map es)) := by
 refine (List.perm_ext_iff_of_nodup hnd ?_).2 fun x => ?_
 ·show (es.map fun p => intOf p.1).Nodup
  refine List.pairwise_map.2 (hp.imp_of_mem fun {p q} hp' hq' hne e => hne ?_)
  obtain ⟨a, ha⟩ := hk p hp'
  obtain ⟨b, hb⟩ := hk q hq'
  rw [ha, hb] at e ⊢
  exact congrArg _ e
 ·rw [hm x, has_eq, List.any_eq_true]
  show _ ↔ x ∈ es.map fun p => intOf p.1
  rw [List.mem_map]
  constructor
  ·rintro ⟨p, hp', hs⟩
   obtain ⟨a, ha⟩ := hk p hp'
   rw [ha] at hs
   exact ⟨p, hp', by rw [ha]; simpa [Lit.sameKey, intOf] using hs⟩
  ·rintro ⟨p, hp', rfl⟩
   obtain ⟨a, ha⟩ := hk p hp'
   exact ⟨p, hp', by rw [ha]; simp [Lit.sameKey, intOf]⟩
section
variable {H : Type} {kd : IntKind} {D0 : DataW H} {left : Lit → Bool} {ss : List Int}
theorem CollectedI.start (kd : IntKind) (D0 : DataW H) : CollectedI kd D0 (has D0) [] := ⟨List.nodup_nil, fun x => by cases has D0 (.int kd x) <;> simp⟩
theorem CollectedI.step (h : CollectedI kd D0 left ss) {x : Int} {y : DataW H} (hlk : left (.int kd x) = true) (hat : ∀ zd, D0.atKey (.int kd x) zd = y) : CollectedI kd D0 (fun z => left z && !z.sameKey (.int kd x)) (ss ++ [x]) := by
 have hhas : has D0 (.int kd x) = true := has_true_of_atKey hat
 have hnew : x ∉ ss := fun hx => by have := ((h.2 x).1 hx).2; rw [hlk] at this; cases this
 refine ⟨List.nodup_append.2 ⟨h.1, by simp, fun a ha b hb => by simp at hb; subst hb; exact fun e => hnew (e ▸ ha)⟩, fun y => ?_⟩
 by_cases hy : y = x
 ·subst hy; simp [hhas, Lit.sameKey]
 ·simp [h.2 y, hy, Lit.sameKey]
variable {P : Program} {k : TypeId} {R : Value → Option (DataW H × List MemPlace)} {w : World} {b n : Nat}
theorem CollectedI.perm (h : CollectedI kd D0 left ss) (hown : w.ownsMap P k R b n D0) (K : Keyed P k) (hk : P.underlying k = some (.int kd)) (hl : ∀ kl, left kl = false) : ss.Perm (intKeys D0) := by
 obtain ⟨es, hD, hpw, _⟩ := hown.entries K
 obtain ⟨es', hD', hko⟩ := hown.keysOf
 obtain rfl : es = es' := by rw [hD] at hD'; simpa using hD'
 subst hD
 exact perm_intKeys hpw (fun p hp => by obtain ⟨v, hv⟩ := hko p hp; obtain ⟨x, _, hx, _⟩ := Maps.keyOf_int_inv hk hv; exact ⟨x, hx⟩) h.1 (fun x => by rw [h.2 x, hl]; simp)
end
variable {P : Program} {ρ : Ren} {kd : IntKind} {bs : Nat}
structure Ks.ApAt (ρ : Ren) (kd : IntKind) (w0 : World) (fn : FuncId) (sv : Value) (Bs l D : Nat) (ss : List Int) (W : World) : Prop where
 box : ∃ v, W.heap[Bs]? = some (.cells #[v] (ρ.t 24) (0, 0)) ∧ W.ownsRow w0.heap.size (ρ.t 26) 1 v ss.length (ss.map (Value.int kd)) ∧ (v = .slice none 0 0 ↔ ss = [])
 L : W.heap[l]? = some (.loop (AnyZ.apRec ρ fn sv Bs D .ready none))
 K : W.heap[D]? = some (.deferred (some []))
 below : Below w0.heap.size w0 W
end Go.Proofs
