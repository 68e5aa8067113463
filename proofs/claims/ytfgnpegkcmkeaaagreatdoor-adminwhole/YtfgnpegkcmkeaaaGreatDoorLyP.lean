/-
  strings.ReplaceAll and strings.Join stand in at every text, by the shelf's contracts; how long what they give is.
-/
import Derived.Test.YtfgnpegkcmkeaaaGreatDoorLyO
import Derived.Shelf.Strings.Replace
import Derived.Shelf.Strings.OnBuilder
import Derived.Lib.CountLaws
import Derived.Lib.Join
set_option linter.unusedSimpArgs false
set_option linter.unusedVariables false
namespace Go.Lx
noncomputable section
open Go.RowKit Go.Shelf Go.Proofs
def toU (l : List Nat) : List UInt8 := l.map UInt8.ofNat
def toN (l : List UInt8) : List Nat := l.map (·.toNat)
theorem toU_toN (l : List UInt8) : toU (toN l) = l := by
 unfold toU toN
 rw [List.map_map]
 conv => rhs; rw [← List.map_id l]
 apply List.map_congr_left
 intro x _
 simp
theorem toN_len (l : List UInt8) : (toN l).length = l.length := by simp [toN]
theorem toNats_eq (A : ByteArray) : toNats A = toN A.data.toList := rfl
theorem toU_toNats (A : ByteArray) : toU (toNats A) = A.data.toList := by rw [toNats_eq, toU_toN]
theorem toNats_mk (l : List UInt8) : toNats ⟨l.toArray⟩ = toN l := by
 rw [toNats_eq]
end
end Go.Lx
