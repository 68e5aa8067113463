/-
  A function of a struct of a number, a row of texts and a number, that writes nothing but what is its own, stands in as what it answers.
-/
import Derived.Test.YtkibhdbmamfjcaaDoorLyL
namespace Go.Lx
open Go.Proofs
set_option linter.unusedVariables false
set_option linter.unusedSimpArgs false
noncomputable section
def famTs : List V → Option (List (List Nat))
  | [] => some []
  | .str s :: l => (famTs l).map (s :: ·)
  | _ => none
theorem famTs_map : ∀ {cs : List V} {ts : List (List Nat)}, famTs cs = some ts → cs = ts.map V.str
  | [], ts, h => by cases h; rfl
  | v :: l, ts, h => by
    cases v <;> try (cases h; done)
    rename_i s
    unfold famTs at h
    cases hl : famTs l with
    | none => rw [hl] at h; cases h
    | some l' => rw [hl] at h; cases h; rw [famTs_map hl]; rfl

end
end Go.Lx
