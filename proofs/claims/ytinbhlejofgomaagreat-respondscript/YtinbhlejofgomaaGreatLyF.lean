/-
  Package-level variables that a row lists: what the world holds there; functions that stand in at one of several closures.
-/
import Derived.Test.YtinbhlejofgomaaGreatLyE
import Derived.ProofKit
import Derived.OpenShut
import Derived.LaidMore
import Derived.Lay
set_option linter.unusedSimpArgs false
set_option linter.unusedVariables false
namespace Go.Lx
noncomputable section
open Go.ChangeShapes Go.WideShapes Go.ChangeAt Go.RowKit
def Holds (w : World) (g : Nat) (c : List V) : Prop := ∃ rc e frz, w.heap[g]? = some (.cells rc e frz) ∧ ∀ (i : Nat) (v : V), c[i]? = some v → ∃ r, rc[i]? = some r ∧ ∀ μ ν, VRel μ ν v r
theorem Globs.add {gl : T (List V)} {w : World} {g : Nat} {c : List V} (h : Globs gl (fun _ => Option.none) w) (hc : Holds w g c) (hne : c.isEmpty = false := by kernel_rfl) (hnt : (c.length == 20) = false := by kernel_rfl) : Globs (gl.set g (some c)) (fun _ => Option.none) w where
 there := fun g' c' h' => by
  rw [T.get_set] at h'
  split at h'
  ·rename_i e; subst e; injection h' with h'; subst h'; exact hc
  ·exact h.there g' c' h'
 apart := fun g c k p h1 h2 => by cases h2
 face := fun g' h' => by
  rw [T.get_set] at h'
  split at h'
  ·injection h' with h'; subst h'; cases hne
  ·exact h.face g' h'
 tab := fun g' c' rc e frz h' hl hw => by
  rw [T.get_set] at h'
  split at h'
  ·injection h' with h'; subst h'; simp [hl] at hnt
  ·exact h.tab g' c' rc e frz h' hl hw
end
end Go.Lx
