/-
  A struct that came in, with a row of texts: what its cells are.
-/
import Derived.Test.YtkibhdbmamfjcaaDoorLyM
import Derived.ChangeShapes
namespace Go.Lx
open Go.Proofs
set_option linter.unusedVariables false
set_option linter.unusedSimpArgs false

theorem mapM_get {α β : Type} {f : α → Option β} : ∀ {l : List α} {r : List β}, l.mapM f = some r → ∀ x ∈ l, ∃ y, f x = some y
  | [], r, h, x, hx => by cases hx
  | a :: l, r, h, x, hx => by
    rw [List.mapM_cons] at h
    cases ha : f a with
    | none => rw [ha] at h; cases h
    | some b =>
      rw [ha] at h
      cases hl : l.mapM f with
      | none => rw [hl] at h; cases h
      | some r' =>
        rcases List.mem_cons.1 hx with rfl | hx
        · exact ⟨b, ha⟩
        · exact mapM_get hl x hx

section
variable {H : Type} {enc : TypeId × Value → H} {P : Program} {w : World} {spare : Nat → Bool} {held : Bool}

theorem trod_string {e : TypeId} {fuel : Nat} {v : Value} {x : DataW H × List MemPlace} (he : P.underlying e = some .string) (h : DataW.trod enc P w 0 spare held fuel e [v] = some x) : ∃ s, v = .string s := by
  cases fuel with
  | zero => cases h
  | succ fuel =>
    unfold DataW.trod at h
    rw [he] at h
    cases v <;> first | exact ⟨_, rfl⟩ | (cases h; done)

theorem trod_texts {t e : TypeId} {a : Addr} {len cap fuel : Nat} {x : DataW H × List MemPlace} (hu : P.underlying t = some (.slice e)) (he : P.underlying e = some .string) (hce : P.cellsOf e = 1) (hs : a.spot = none)
    (h : DataW.trod enc P w 0 spare held fuel t [.slice (some a) len cap] = some x) : ∀ i, i < len → ∃ s, w.cell? ⟨a.block, a.off + i, none⟩ = some (.string s) := by
  cases fuel with
  | zero => cases h
  | succ fuel =>
    unfold DataW.trod at h
    rw [hu] at h
    simp only at h
    split at h
    · intro i hi
      cases hm : (List.range len).mapM (fun i => (w.cells? 0 (a.add (i * P.cellsOf e)) (P.cellsOf e)).bind (DataW.trod enc P w 0 spare held fuel e)) with
      | none => rw [hm] at h; cases h
      | some r =>
        obtain ⟨y, hy⟩ := mapM_get hm i (List.mem_range.2 hi)
        cases hc : w.cells? 0 (a.add (i * P.cellsOf e)) (P.cellsOf e) with
        | none => rw [hc] at hy; cases hy
        | some cs =>
          rw [hc] at hy
          simp only [Option.bind_some] at hy
          rw [hce, Nat.mul_one] at hc
          unfold World.cells? at hc
          rw [if_pos (Nat.zero_le _)] at hc
          have hadd : (a.add i).add 0 = ⟨a.block, a.off + i, none⟩ := by
            obtain ⟨b, o, sp⟩ := a
            simp only at hs
            subst hs
            rw [add_none, add_none]
            rfl
          simp only [List.range_one, List.mapM_cons, List.mapM_nil, hadd] at hc
          cases hv : w.cell? ⟨a.block, a.off + i, none⟩ with
          | none => rw [hv] at hc; cases hc
          | some v =>
            rw [hv] at hc
            have hcs : cs = [v] := by
              have : some [v] = some cs := hc
              injection this with this
              exact this.symm
            subst hcs
            obtain ⟨s, rfl⟩ := trod_string he hy
            exact ⟨s, rfl⟩
    · cases h

/-- a struct's field is read -/
theorem trod_field {t : TypeId} {fs : Array Field} {f : Field} {cs : List Value} {fuel : Nat} {x : DataW H × List MemPlace} (hu : P.underlying t = some (.struct fs)) (hf : f ∈ fs.toList) (h : DataW.trod enc P w 0 spare held fuel t cs = some x) :
    ∃ y, DataW.trod enc P w 0 spare held (fuel - 1) f.type ((cs.drop f.offset).take (P.cellsOf f.type)) = some y := by
  cases fuel with
  | zero => cases h
  | succ fuel =>
    unfold DataW.trod at h
    rw [hu] at h
    simp only at h
    split at h
    · cases hm : fs.toList.mapM (fun f => DataW.trod enc P w 0 spare held fuel f.type ((cs.drop f.offset).take (P.cellsOf f.type))) with
      | none => rw [hm] at h; cases h
      | some r => exact mapM_get hm f hf
    · cases h

/-- a row of texts that came in, as texts -/
theorem texts_row {a : Addr} {len : Nat} (hsh : ∃ q, w.shape? a.block = some q) (h : ∀ i, i < len → ∃ s, w.cell? ⟨a.block, a.off + i, none⟩ = some (.string s)) :
    ∃ (ts : List (List Nat)) (rc : Array Value) (e : TypeId) (frz : Nat × Nat), ts.length = len ∧ w.heap[a.block]? = some (.cells rc e frz) ∧ (∀ t ∈ ts, ∃ b : ByteArray, t = toNats b) ∧ ∀ i v, (ts.map V.str)[i]? = some v → ∃ r, rc[a.off + i]? = some r ∧ ∀ μ ν, VRel μ ν v r := by
  obtain ⟨q, hq⟩ := hsh
  unfold World.shape? at hq
  cases hh : w.heap[a.block]? with
  | none => rw [hh] at hq; cases hq
  | some ob =>
    rw [hh] at hq
    cases ob <;> try (cases hq; done)
    rename_i rc e frz
    have hc : ∀ i, i < len → ∃ s, rc[a.off + i]? = some (.string s) := fun i hi => by
      obtain ⟨s, hs⟩ := h i hi
      rw [cell_at hh] at hs
      exact ⟨s, hs⟩
    clear h hq
    have key : ∀ n, n ≤ len → ∃ ts : List (List Nat), ts.length = n ∧ (∀ t ∈ ts, ∃ b : ByteArray, t = toNats b) ∧ ∀ i v, (ts.map V.str)[i]? = some v → ∃ r, rc[a.off + i]? = some r ∧ ∀ μ ν, VRel μ ν v r := by
      intro n
      induction n with
      | zero => exact fun _ => ⟨[], rfl, fun t ht => (by cases ht), fun i v hi => (by cases hi)⟩
      | succ n ih =>
        intro hn
        obtain ⟨ts, h1, h2, h3⟩ := ih (by omega)
        obtain ⟨s, hs⟩ := hc n (by omega)
        refine ⟨ts ++ [toNats s], by simp [h1], fun t ht => ?_, fun i v hi => ?_⟩
        · rcases List.mem_append.1 ht with ht | ht
          · exact h2 t ht
          · rw [List.mem_singleton] at ht; exact ⟨s, ht⟩
        · rw [List.map_append] at hi
          by_cases hin : i < n
          · rw [List.getElem?_append_left (by simp [h1]; exact hin)] at hi
            exact h3 i v hi
          · rw [List.getElem?_append_right (by simp [h1]; omega)] at hi
            have : i = n := by
              have := (List.getElem?_eq_some_iff.1 hi).1
              simp [h1] at this
              omega
            subst this
            simp [h1] at hi
            subst hi
            exact ⟨_, hs, fun μ ν => .str s⟩
    obtain ⟨ts, h1, h2, h3⟩ := key len (Nat.le_refl _)
    exact ⟨ts, rc, e, frz, h1, rfl, h2, h3⟩
open Go.ChangeShapes in
theorem trodAll_four {t1 t2 t3 t4 : TypeId} {args : Array Value} {ds : List (DataW H)} {ps : List MemPlace} (h : DataW.TrodAll enc P w 0 spare held [t1, t2, t3, t4] args.toList ds ps) :
    ∃ v1 v2 v3 v4 d1 p1, args = #[v1, v2, v3, v4] ∧ DataW.Trod enc P w 0 spare held t1 v1 d1 p1 := by
  obtain ⟨v1, vs, d1, ds', p1, q, e1, rfl, rfl, hd, hrest⟩ := trodAll_cons h
  obtain ⟨v2, vs2, d2, ds2, p2, q2, rfl, rfl, rfl, hd2, hrest2⟩ := trodAll_cons hrest
  obtain ⟨v3, vs3, d3, ds3, p3, q3, rfl, rfl, rfl, hd3, hrest3⟩ := trodAll_cons hrest2
  obtain ⟨v4, vs4, d4, ds4, p4, q4, rfl, rfl, rfl, hd4, hrest4⟩ := trodAll_cons hrest3
  obtain ⟨rfl, rfl, rfl⟩ := trodAll_nil hrest4
  exact ⟨v1, v2, v3, v4, d1, p1, by cases args; simp_all, hd⟩
end
end Go.Lx
