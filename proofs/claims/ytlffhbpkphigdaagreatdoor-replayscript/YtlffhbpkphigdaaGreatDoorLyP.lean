/-
  strings.ReplaceAll and strings.Join stand in at every text, by the shelf's contracts; how long what they give is.
-/
import Derived.Test.YtlffhbpkphigdaaGreatDoorLyO
import Derived.Shelf.Strings.Replace
import Derived.Shelf.Strings.OnBuilder
import Derived.Lib.CountLaws
import Derived.Lib.Join
set_option linter.unusedSimpArgs false
set_option linter.unusedVariables false
namespace Go.Lx
noncomputable section
open Go.RowKit Go.Shelf Go.Proofs
def toU (l : List Nat) : List UInt8 := l.map UInt8.ofNat
def toN (l : List UInt8) : List Nat := l.map (·.toNat)
theorem toU_toN (l : List UInt8) : toU (toN l) = l := by
  unfold toU toN
  rw [List.map_map]
  conv => rhs; rw [← List.map_id l]
  apply List.map_congr_left
  intro x _
  simp
theorem toU_len (l : List Nat) : (toU l).length = l.length := by simp [toU]
theorem toN_len (l : List UInt8) : (toN l).length = l.length := by simp [toN]
theorem toN_bytes (l : List UInt8) : ∀ b ∈ toN l, b < 256 := by
  intro b hb
  simp only [toN, List.mem_map] at hb
  obtain ⟨y, _, rfl⟩ := hb
  exact y.toNat_lt
theorem toNats_eq (A : ByteArray) : toNats A = toN A.data.toList := rfl
theorem toU_toNats (A : ByteArray) : toU (toNats A) = A.data.toList := by rw [toNats_eq, toU_toN]
theorem toNats_mk (l : List UInt8) : toNats ⟨l.toArray⟩ = toN l := by
  rw [toNats_eq]
theorem replaceK_len (old new : List UInt8) : ∀ (k : Nat) (s : List UInt8), (Lib.replaceK old new k s).length ≤ s.length + k * new.length
  | 0, s => by simp [Lib.replaceK]
  | k + 1, s => by
    unfold Lib.replaceK
    split
    · omega
    · have ih := replaceK_len old new k (s.drop ((Lib.index s old).toNat + old.length))
      rw [List.length_append, List.length_append, List.length_take]
      rw [List.length_drop] at ih
      rw [Nat.add_mul]
      omega
def replF (a b c : List Nat) : List Nat := toN (Lib.replaceAll (toU a) (toU b) (toU c))
theorem replF_len (a b c : List Nat) : (replF a b c).length ≤ a.length + (a.length + 1) * c.length := by
  unfold replF Lib.replaceAll Lib.replace
  rw [toN_len]
  split
  · rw [toU_len]; omega
  · refine Nat.le_trans (replaceK_len _ _ _ _) ?_
    have h1 : Lib.replaceNum (toU a) (toU b) (-1) ≤ a.length + 1 := by
      unfold Lib.replaceNum
      rw [if_pos (.inl (by decide))]
      have := Lib.count_le (toU a) (toU b)
      rw [toU_len] at this
      exact this
    rw [toU_len, toU_len]
    have := Nat.mul_le_mul_right c.length h1
    omega
def replV : List V → Option V
  | [.str a, .str b, .str c] => bif Nat.blt a.length 4294967281 && (Nat.blt 0 b.length && Nat.ble (a.length + (a.length + 1) * c.length) 140737488355328) then some (.str (replF a b c)) else none
  | _ => none
theorem extSum_repl {P : Program} {ρ : Ren} {gl : T (List V)} {m : Int} (L : Lays.n155 P ρ) (X : Builder.Extra P ρ) (hm : gl.get (ρ.g 1) = some [.int .i64 m]) (he : Enters P (ρ.f 155)) : ExtSum P gl (ρ.f 155) (pureM replV) := by
  refine ⟨local_pureM _, fun vs v s s' w μ ν rs h hr hf hg ha => ?_⟩
  unfold pureM at h
  cases hv : replV vs with
  | none => rw [hv] at h; exact (err_ok h).elim
  | some x =>
    rw [hv] at h
    obtain ⟨rfl, rfl⟩ := ret_ok h
    unfold replV at hv
    split at hv
    · rename_i a b c
      cases hb : (Nat.blt a.length 4294967281 && (Nat.blt 0 b.length && Nat.ble (a.length + (a.length + 1) * c.length) 140737488355328))
      · rw [hb, cond_false] at hv; cases hv
      rw [hb, cond_true] at hv
      rw [Bool.and_eq_true, Bool.and_eq_true, blt_iff, blt_iff, ble_iff] at hb
      obtain ⟨hb1, hb2, hb3⟩ := hb
      injection hv with hv; subst hv
      cases ha with
      | cons h1 h2 =>
        cases h2 with
        | cons h2 h3 =>
          cases h3 with
          | cons h3 h4 =>
          cases h4
          cases h1 with
          | str A =>
            cases h2 with
            | str B =>
              cases h3 with
              | str C =>
              obtain ⟨rc, e, frz, g1, g2⟩ := hg.there _ _ hm
              obtain ⟨r, g3, g4⟩ := g2 0 _ rfl
              have hr0 : r = .int .i64 m := by cases g4 (fun _ => none) (fun _ => undef); rfl
              subst hr0
              have hcell : w.cell? ⟨ρ.g 1, 0, none⟩ = some (.int .i64 m) := by rw [cell_at g1]; exact g3
              rw [toNats_length] at hb1 hb2 hb3
              rw [toNats_length] at hb3
              have hc : Lib.countB A B ≤ A.size + 1 := by
                have := Lib.count_le A.data.toList B.data.toList
                exact this
              have hlen : A.size + Lib.countB A B * C.size ≤ 140737488355328 := by
                have := Nat.mul_le_mul_right C.size hc
                omega
              left
              refine ⟨he _ _, (Any.strings_ReplaceAll L X A B C m w hb1 hcell hb2 hlen).mono ?_⟩
              rintro e' w' ⟨rfl, hb⟩
              refine ⟨_, rfl, μ, ?_, StepOk.below hr hb⟩
              have e1 : replF (toNats A) (toNats B) (toNats C) = toNats ⟨(Lib.replaceAll A.data.toList B.data.toList C.data.toList).toArray⟩ := by
                rw [replF, toU_toNats, toU_toNats, toU_toNats]
                exact (toNats_mk _).symm
              rw [e1]
              exact .str _
    · cases hv
end
end Go.Lx
