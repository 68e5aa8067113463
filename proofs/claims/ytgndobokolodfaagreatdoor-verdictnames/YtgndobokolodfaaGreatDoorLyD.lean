/-
  A map with keys of an integer kind, as the kit's laws on maps want it.
-/
import Derived.Test.YtgndobokolodfaaGreatDoorLyC
set_option linter.unusedSimpArgs false
set_option linter.unusedVariables false
namespace Go.Lx
noncomputable section
open Go.Proofs Go.Maps
open Go.WideElems (Fit rd rg rd_mk rg_of)
open Go.MapKept (Stamped)
open Go.WideShapes (sorted_perm)

def distinct : List Int → Bool
  | [] => true
  | x :: l => l.all (fun y => !decide (x = y)) && distinct l

theorem distinct_ok : ∀ {l : List Int}, distinct l = true → l.Nodup
  | [], _ => List.nodup_nil
  | x :: l, h => by
    unfold distinct at h
    rw [Bool.and_eq_true] at h
    refine List.nodup_cons.2 ⟨fun hx => ?_, distinct_ok h.2⟩
    have := List.all_eq_true.1 h.1 x hx
    simp at this

def keysI (kd : IntKind) : List ME → Option (List Int)
  | [] => some []
  | e :: es => match e.key with
    | .int k n => if k = kd then (bif (Lit.int kd n).wf then (match keysI kd es with | some r => some (n :: r) | none => none) else none) else none
    | _ => none

theorem keysI_rel {μ : Mu} {ν : Nat → Value} {kd : IntKind} : ∀ {es : List ME} {res : List MapEntry} {ks : List Int}, ESRel μ ν es res → keysI kd es = some ks →
    res.map (·.key) = ks.map (Value.int kd) ∧ res.map (·.born) = es.map (·.born) ∧ ∀ n ∈ ks, (Lit.int kd n).wf = true
  | _, _, ks, .nil, h => by cases h; exact ⟨rfl, rfl, by simp⟩
  | _, _, ks, .cons (k := k) (es := es) hk hv hs, h => by
    cases k <;> simp only [keysI] at h <;> try (cases h; done)
    rename_i q n
    by_cases hq : q = kd
    · rw [if_pos hq] at h
      subst hq
      cases hw : (Lit.int q n).wf
      · rw [hw] at h; cases h
      · rw [hw, cond_true] at h
        cases hr : keysI q es with
        | none => rw [hr] at h; cases h
        | some r =>
          rw [hr] at h
          cases h
          obtain ⟨g1, g2, g3⟩ := keysI_rel hs hr
          cases hk
          refine ⟨by simp [g1], by simp [g2], fun m hm => ?_⟩
          rcases List.mem_cons.1 hm with rfl | hm
          · exact hw
          · exact g3 m hm
    · rw [if_neg hq] at h; cases h

def valInt : Value → Int
  | .int _ n => n
  | _ => 0

theorem owns_of_keys {P : Program} {k : TypeId} {kd : IntKind} (hk : P.underlying k = some (.int kd)) {W : World} {b clock : Nat} {res : List MapEntry} {ks : List Int} (hb : W.heap[b]? = some (.map ⟨res⟩ clock)) (h1 : res.map (·.key) = ks.map (Value.int kd))
    (hw : ∀ n ∈ ks, (Lit.int kd n).wf = true) (hs : Stamped ⟨res⟩ clock) (hl : ks.length ≤ maxLen) :
    ∃ D : DataW Unit, W.ownsMap P k (fun _ => some (.nil, [])) b ks.length D ∧ (intKeys D).Perm ks ∧ Maps.size D = ks.length := by
  have hlen : res.length = ks.length := by simpa using congrArg List.length h1
  have hrd : ∀ x ∈ res, ∃ n, x.key = .int kd n ∧ rd P k (fun _ => some ((.nil : DataW Unit), [])) x = some (.int kd n, .nil) := by
    intro x hx
    have hm : x.key ∈ ks.map (Value.int kd) := by rw [← h1]; exact List.mem_map_of_mem hx
    obtain ⟨n, hn, e⟩ := List.mem_map.1 hm
    refine ⟨n, e.symm, ?_⟩
    obtain ⟨xk, xv, xb⟩ := x
    have e' : xk = Value.int kd n := e.symm
    subst e'
    exact rd_mk (yv := (.nil, [])) (R := fun _ => some ((.nil : DataW Unit), [])) (keyOf_int_mk hk (hw n hn)) rfl
  refine ⟨.map ((res.map (rg P k fun _ => some (.nil, []))).foldr DataW.insert []), ⟨⟨res⟩, clock, hb, ⟨by simpa [hlen] using hl, hs, fun x hx => ?_⟩, by simp [hlen], rfl⟩, ?_, ?_⟩
  · obtain ⟨n, _, h⟩ := hrd x hx
    exact ⟨_, h⟩
  · show (((res.map (rg P k fun _ => some ((.nil : DataW Unit), []))).foldr DataW.insert []).map fun p => intOf p.1).Perm ks
    refine ((sorted_perm _).map _).trans ?_
    have : (res.map (rg P k fun _ => some ((.nil : DataW Unit), []))).map (fun p => intOf p.1) = ks := by
      rw [List.map_map]
      have e : res.map ((fun p => intOf p.1) ∘ rg P k fun _ => some ((.nil : DataW Unit), [])) = (res.map (·.key)).map valInt := by
        rw [List.map_map]
        refine List.map_congr_left fun x hx => ?_
        obtain ⟨n, e, h⟩ := hrd x hx
        simp only [Function.comp, rg_of h, e, valInt, intOf]
      rw [e, h1, List.map_map]
      have : (valInt ∘ Value.int kd) = id := by funext n; rfl
      rw [this, List.map_id]
    rw [this]
  · show ((res.map (rg P k fun _ => some ((.nil : DataW Unit), []))).foldr DataW.insert []).length = _
    rw [(sorted_perm _).length_eq, List.length_map, hlen]

end
end Go.Lx
