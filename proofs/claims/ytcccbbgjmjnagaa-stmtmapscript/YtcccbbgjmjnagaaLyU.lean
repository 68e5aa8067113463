/-
  Rows of flat structs that came in: what their cells are.
-/
import Derived.Test.YtcccbbgjmjnagaaLyG
import Derived.ChangeShapes
namespace Go.Lx
open Go.Proofs
set_option linter.unusedVariables false
set_option linter.unusedSimpArgs false
theorem mapM_get' {α β : Type} {f : α → Option β} : ∀ {l : List α} {r : List β}, l.mapM f = some r → ∀ x ∈ l, ∃ y, f x = some y
  | [], r, h, x, hx => by cases hx
  | a :: l, r, h, x, hx => by
    rw [List.mapM_cons] at h
    cases ha : f a with
    | none => rw [ha] at h; cases h
    | some b =>
      rw [ha] at h
      cases hl : l.mapM f with
      | none => rw [hl] at h; cases h
      | some r' =>
        rcases List.mem_cons.1 hx with rfl | hx
        · exact ⟨b, ha⟩
        · exact mapM_get' hl x hx
section
variable {H : Type} {enc : TypeId × Value → H} {P : Program} {w : World} {spare : Nat → Bool} {held : Bool}
theorem trod_field' {t : TypeId} {fs : Array Field} {f : Field} {cs : List Value} {fuel : Nat} {x : DataW H × List MemPlace} (hu : P.underlying t = some (.struct fs)) (hf : f ∈ fs.toList) (h : DataW.trod enc P w 0 spare held fuel t cs = some x) :
    ∃ y, DataW.trod enc P w 0 spare held (fuel - 1) f.type ((cs.drop f.offset).take (P.cellsOf f.type)) = some y := by
  cases fuel with
  | zero => cases h
  | succ fuel =>
    unfold DataW.trod at h
    rw [hu] at h
    simp only at h
    split at h
    · cases hm : fs.toList.mapM (fun f => DataW.trod enc P w 0 spare held fuel f.type ((cs.drop f.offset).take (P.cellsOf f.type))) with
      | none => rw [hm] at h; cases h
      | some r => exact mapM_get' hm f hf
    · cases h
theorem mapM_at {α β : Type} {f : α → Option β} : ∀ {l : List α} {r : List β}, l.mapM f = some r → r.length = l.length ∧ ∀ j, j < l.length → (l[j]?).bind f = r[j]?
  | [], r, h => by
    have : r = [] := by
      have h : some [] = some r := h
      exact (Option.some.inj h).symm
    subst this
    exact ⟨rfl, fun j hj => by cases hj⟩
  | a :: l, r, h => by
    rw [List.mapM_cons] at h
    cases ha : f a with
    | none => rw [ha] at h; cases h
    | some b =>
      rw [ha] at h
      cases hl : l.mapM f with
      | none => rw [hl] at h; cases h
      | some r' =>
        rw [hl] at h
        have : b :: r' = r := by
          have h : some (b :: r') = some r := h
          exact Option.some.inj h
        subst this
        obtain ⟨h1, h2⟩ := mapM_at hl
        refine ⟨by simp [h1], fun j hj => ?_⟩
        cases j with
        | zero => simpa using ha
        | succ j => simpa using h2 j (by simpa using hj)
theorem trod_int {e : TypeId} {k : IntKind} {fuel : Nat} {cs : List Value} {x : DataW H × List MemPlace} (he : P.underlying e = some (.int k)) (h : DataW.trod enc P w 0 spare held fuel e cs = some x) : ∃ n, cs = [.int k n] ∧ (Lit.int k n).wf = true := by
  cases fuel with
  | zero => cases h
  | succ fuel =>
    unfold DataW.trod at h
    rw [he] at h
    cases cs with
    | nil => cases h
    | cons v l => cases l with
      | cons u l => cases v <;> cases h
      | nil =>
        cases v <;> try (cases h; done)
        simp only at h
        split at h
        · rename_i hk
          obtain ⟨rfl, hw⟩ := hk
          exact ⟨_, rfl, hw⟩
        · cases h
theorem trod_bool {e : TypeId} {fuel : Nat} {cs : List Value} {x : DataW H × List MemPlace} (he : P.underlying e = some .bool) (h : DataW.trod enc P w 0 spare held fuel e cs = some x) : ∃ b, cs = [.bool b] := by
  cases fuel with
  | zero => cases h
  | succ fuel =>
    unfold DataW.trod at h
    rw [he] at h
    cases cs with
    | nil => cases h
    | cons v l => cases l with
      | cons u l => cases v <;> cases h
      | nil =>
        cases v <;> first | exact ⟨_, rfl⟩ | (cases h; done)
theorem trod_str {e : TypeId} {fuel : Nat} {cs : List Value} {x : DataW H × List MemPlace} (he : P.underlying e = some .string) (h : DataW.trod enc P w 0 spare held fuel e cs = some x) : ∃ s, cs = [.string s] := by
  cases fuel with
  | zero => cases h
  | succ fuel =>
    unfold DataW.trod at h
    rw [he] at h
    cases cs with
    | nil => cases h
    | cons v l => cases l with
      | cons u l => cases v <;> cases h
      | nil =>
        cases v <;> first | exact ⟨_, rfl⟩ | (cases h; done)
theorem trod_struct_len {t : TypeId} {fs : Array Field} {cs : List Value} {fuel : Nat} {x : DataW H × List MemPlace} (hu : P.underlying t = some (.struct fs)) (h : DataW.trod enc P w 0 spare held fuel t cs = some x) : cs.length = P.cellsOf t := by
  cases fuel with
  | zero => cases h
  | succ fuel =>
    unfold DataW.trod at h
    rw [hu] at h
    simp only at h
    split at h
    · assumption
    · cases h
theorem trod_row {t e : TypeId} {a : Addr} {len cap fuel : Nat} {x : DataW H × List MemPlace} (hu : P.underlying t = some (.slice e)) (hs : a.spot = none)
    (h : DataW.trod enc P w 0 spare held fuel t [.slice (some a) len cap] = some x) : len ≤ cap ∧ cap ≤ maxLen ∧ ∀ i, i < len → ∃ cs y, DataW.trod enc P w 0 spare held (fuel - 1) e cs = some y ∧ cs.length = P.cellsOf e ∧ ∀ j, j < P.cellsOf e → w.cell? ⟨a.block, a.off + (i * P.cellsOf e + j), none⟩ = cs[j]? := by
  cases fuel with
  | zero => cases h
  | succ fuel =>
    unfold DataW.trod at h
    rw [hu] at h
    simp only at h
    split at h
    · rename_i hc
      refine ⟨hc.2.1, hc.2.2, fun i hi => ?_⟩
      cases hm : (List.range len).mapM (fun i => (w.cells? 0 (a.add (i * P.cellsOf e)) (P.cellsOf e)).bind (DataW.trod enc P w 0 spare held fuel e)) with
      | none => rw [hm] at h; cases h
      | some r =>
        obtain ⟨y, hy⟩ := mapM_get' hm i (List.mem_range.2 hi)
        cases hc2 : w.cells? 0 (a.add (i * P.cellsOf e)) (P.cellsOf e) with
        | none => rw [hc2] at hy; cases hy
        | some cs =>
          rw [hc2] at hy
          simp only [Option.bind_some] at hy
          unfold World.cells? at hc2
          rw [if_pos (Nat.zero_le _)] at hc2
          have hlen : cs.length = P.cellsOf e := by
            have := (mapM_at hc2).1
            simpa using this
          refine ⟨cs, y, hy, hlen, fun j hj => ?_⟩
          have hadd : (a.add (i * P.cellsOf e)).add j = ⟨a.block, a.off + (i * P.cellsOf e + j), none⟩ := by
            obtain ⟨b, o, sp⟩ := a
            simp only at hs
            subst hs
            rw [add_none, add_none]
            simp [Nat.add_assoc]
          have h2 := (mapM_at hc2).2 j (by simpa using hj)
          rw [List.getElem?_range hj, Option.bind_some, hadd] at h2
          exact h2
    · cases h
theorem flat_row {a : Addr} {len sz : Nat} {Q : List Value → Prop} (hsh : ∃ q, w.shape? a.block = some q) (h : ∀ i, i < len → ∃ cs : List Value, cs.length = sz ∧ Q cs ∧ ∀ j, j < sz → w.cell? ⟨a.block, a.off + (i * sz + j), none⟩ = cs[j]?) :
    ∃ (rows : List (List Value)) (rc : Array Value) (e : TypeId) (frz : Nat × Nat), rows.length = len ∧ w.heap[a.block]? = some (.cells rc e frz) ∧ (∀ r ∈ rows, r.length = sz ∧ Q r) ∧ ∀ i v, rows.flatten[i]? = some v → rc[a.off + i]? = some v := by
  obtain ⟨q, hq⟩ := hsh
  unfold World.shape? at hq
  cases hh : w.heap[a.block]? with
  | none => rw [hh] at hq; cases hq
  | some ob =>
    rw [hh] at hq
    cases ob <;> try (cases hq; done)
    rename_i rc e frz
    clear hq
    have key : ∀ n, n ≤ len → ∃ rows : List (List Value), rows.length = n ∧ rows.flatten.length = n * sz ∧ (∀ r ∈ rows, r.length = sz ∧ Q r) ∧ ∀ i v, rows.flatten[i]? = some v → rc[a.off + i]? = some v := by
      intro n
      induction n with
      | zero => exact fun _ => ⟨[], rfl, by simp, fun t ht => (by cases ht), fun i v hi => (by simp at hi)⟩
      | succ n ih =>
        intro hn
        obtain ⟨rows, h1, h2, h3, h4⟩ := ih (by omega)
        obtain ⟨cs, c1, c2, c3⟩ := h n (by omega)
        refine ⟨rows ++ [cs], by simp [h1], by simp [List.flatten_append, h2, c1, Nat.succ_mul], fun t ht => ?_, fun i v hi => ?_⟩
        · rcases List.mem_append.1 ht with ht | ht
          · exact h3 t ht
          · rw [List.mem_singleton.1 ht]; exact ⟨c1, c2⟩
        · have e0 : (rows ++ [cs]).flatten = rows.flatten ++ cs := by simp [List.flatten_append]
          rw [e0] at hi
          by_cases hin : i < n * sz
          · rw [List.getElem?_append_left (by omega)] at hi
            exact h4 i v hi
          · rw [List.getElem?_append_right (by omega), h2] at hi
            have hj : i - n * sz < sz := by
              have := (List.getElem?_eq_some_iff.1 hi).1
              omega
            have h5 := c3 (i - n * sz) hj
            rw [hi, cell_at hh] at h5
            rw [← h5]
            congr 1
            omega
    obtain ⟨rows, h1, h2, h3, h4⟩ := key len (Nat.le_refl _)
    exact ⟨rows, rc, e, frz, h1, rfl, h3, h4⟩
end
end Go.Lx
