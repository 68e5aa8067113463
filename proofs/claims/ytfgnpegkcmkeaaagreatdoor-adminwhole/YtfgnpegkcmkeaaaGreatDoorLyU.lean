/-
  Rows of flat structs that came in: what their cells are.
-/
import Derived.Test.YtfgnpegkcmkeaaaGreatDoorLyG
import Derived.ChangeShapes
namespace Go.Lx
open Go.Proofs
set_option linter.unusedVariables false
set_option linter.unusedSimpArgs false
theorem mapM_get' {α β : Type} {f : α → Option β} : ∀ {l : List α} {r : List β}, l.mapM f = some r → ∀ x ∈ l, ∃ y, f x = some y
 | [], r, h, x, hx => by cases hx
 | a :: l, r, h, x, hx => by
   rw [List.mapM_cons] at h
   cases ha : f a with
   | none => rw [ha] at h; cases h
   | some b =>
     rw [ha] at h
     cases hl : l.mapM f with
     | none => rw [hl] at h; cases h
     | some r' =>
       rcases List.mem_cons.1 hx with rfl | hx
       ·exact ⟨b, ha⟩
       ·exact mapM_get' hl x hx
section
variable {H : Type} {enc : TypeId × Value → H} {P : Program} {w : World} {spare : Nat → Bool} {held : Bool}
theorem trod_field' {t : TypeId} {fs : Array Field} {f : Field} {cs : List Value} {fuel : Nat} {x : DataW H × List MemPlace} (hu : P.underlying t = some (.struct fs)) (hf : f ∈ fs.toList) (h : DataW.trod enc P w 0 spare held fuel t cs = some x) :
  ∃ y, DataW.trod enc P w 0 spare held (fuel - 1) f.type ((cs.drop f.offset).take (P.cellsOf f.type)) = some y := by
 cases fuel with
 | zero => cases h
 | succ fuel =>
   unfold DataW.trod at h
   rw [hu] at h
   simp only at h
   split at h
   ·cases hm : fs.toList.mapM (fun f => DataW.trod enc P w 0 spare held fuel f.type ((cs.drop f.offset).take (P.cellsOf f.type))) with
    | none => rw [hm] at h; cases h
    | some r => exact mapM_get' hm f hf
   ·cases h
theorem mapM_at {α β : Type} {f : α → Option β} : ∀ {l : List α} {r : List β}, l.mapM f = some r → r.length = l.length ∧ ∀ j, j < l.length → (l[j]?).bind f = r[j]?
 | [], r, h => by
   have : r = [] := by
    have h : some [] = some r := h
    exact (Option.some.inj h).symm
   subst this
   exact ⟨rfl, fun j hj => by cases hj⟩
 | a :: l, r, h => by
   rw [List.mapM_cons] at h
   cases ha : f a with
   | none => rw [ha] at h; cases h
   | some b =>
     rw [ha] at h
     cases hl : l.mapM f with
     | none => rw [hl] at h; cases h
     | some r' =>
       rw [hl] at h
       have : b :: r' = r := by
        have h : some (b :: r') = some r := h
        exact Option.some.inj h
       subst this
       obtain ⟨h1, h2⟩ := mapM_at hl
       refine ⟨by simp [h1], fun j hj => ?_⟩
       cases j with
       | zero => simpa using ha
       | succ j => simpa using h2 j (by simpa using hj)
theorem trod_int {e : TypeId} {k : IntKind} {fuel : Nat} {cs : List Value} {x : DataW H × List MemPlace} (he : P.underlying e = some (.int k)) (h : DataW.trod enc P w 0 spare held fuel e cs = some x) : ∃ n, cs = [.int k n] ∧ (Lit.int k n).wf = true := by
 cases fuel with
 | zero => cases h
 | succ fuel =>
   unfold DataW.trod at h
   rw [he] at h
   cases cs with
   | nil => cases h
   | cons v l => cases l with
     | cons u l => cases v <;> cases h
     | nil =>
       cases v <;> try (cases h; done)
       simp only at h
       split at h
       ·rename_i hk
        obtain ⟨rfl, hw⟩ := hk
        exact ⟨_, rfl, hw⟩
       ·cases h
theorem trod_bool {e : TypeId} {fuel : Nat} {cs : List Value} {x : DataW H × List MemPlace} (he : P.underlying e = some .bool) (h : DataW.trod enc P w 0 spare held fuel e cs = some x) : ∃ b, cs = [.bool b] := by
 cases fuel with
 | zero => cases h
 | succ fuel =>
   unfold DataW.trod at h
   rw [he] at h
   cases cs with
   | nil => cases h
   | cons v l => cases l with
     | cons u l => cases v <;> cases h
     | nil =>
       cases v <;> first | exact ⟨_, rfl⟩ | (cases h; done)
theorem trod_str {e : TypeId} {fuel : Nat} {cs : List Value} {x : DataW H × List MemPlace} (he : P.underlying e = some .string) (h : DataW.trod enc P w 0 spare held fuel e cs = some x) : ∃ s, cs = [.string s] := by
 cases fuel with
 | zero => cases h
 | succ fuel =>
   unfold DataW.trod at h
   rw [he] at h
   cases cs with
   | nil => cases h
   | cons v l => cases l with
     | cons u l => cases v <;> cases h
     | nil =>
       cases v <;> first | exact ⟨_, rfl⟩ | (cases h; done)
theorem trod_struct_len {t : TypeId} {fs : Array Field} {cs : List Value} {fuel : Nat} {x : DataW H × List MemPlace} (hu : P.underlying t = some (.struct fs)) (h : DataW.trod enc P w 0 spare held fuel t cs = some x) : cs.length = P.cellsOf t := by
 cases fuel with
 | zero => cases h
 | succ fuel =>
   unfold DataW.trod at h
   rw [hu] at h
   simp only at h
   split at h
   ·assumption
   ·cases h
end
end Go.Lx
