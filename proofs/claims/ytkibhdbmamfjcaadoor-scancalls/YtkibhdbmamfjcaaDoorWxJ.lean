/-
  Numbers that are counts: sums and comparisons as counts.
-/
import Derived.Test.YtkibhdbmamfjcaaDoorWxI
set_option linter.unusedSimpArgs false
set_option linter.unusedVariables false
set_option linter.defProp false
namespace Go.Wx
open Go.Lx Go.IntWalk

theorem clt_l (m : Int) (a : Nat) (h : 0 ≤ m) : (m < (a : Int)) = (m.toNat < a) := propext (by constructor <;> intro h <;> omega)
theorem cle_l (m : Int) (a : Nat) (h : 0 ≤ m) : (m ≤ (a : Int)) = (m.toNat ≤ a) := propext (by constructor <;> intro h <;> omega)
theorem ceq_l (m : Int) (a : Nat) (h : 0 ≤ m) : (m = (a : Int)) = (m.toNat = a) := propext (by constructor <;> intro h <;> omega)
theorem clt_r (m : Int) (a : Nat) (h : 0 ≤ m) : ((a : Int) < m) = (a < m.toNat) := propext (by constructor <;> intro h <;> omega)
theorem cle_r (m : Int) (a : Nat) (h : 0 ≤ m) : ((a : Int) ≤ m) = (a ≤ m.toNat) := propext (by constructor <;> intro h <;> omega)
theorem ceq_r (m : Int) (a : Nat) (h : 0 ≤ m) : ((a : Int) = m) = (a = m.toNat) := propext (by constructor <;> intro h <;> omega)
theorem wadd_r (m : Int) (a : Nat) (h : 0 ≤ m ∧ a + m.toNat < 9223372036854775808) : IntKind.i64.wrap ((a : Int) + m) = ((a + m.toNat : Nat) : Int) := by rw [i64_in _ (by omega)]; omega
theorem wadd_l (m : Int) (a : Nat) (h : 0 ≤ m ∧ m.toNat + a < 9223372036854775808) : IntKind.i64.wrap (m + (a : Int)) = ((m.toNat + a : Nat) : Int) := by rw [i64_in _ (by omega)]; omega
theorem wsub_r (m : Int) (a : Nat) (h : 0 ≤ m ∧ m.toNat ≤ a ∧ a < 9223372036854775808) : IntKind.i64.wrap ((a : Int) - m) = ((a - m.toNat : Nat) : Int) := by rw [i64_in _ (by omega)]; omega
noncomputable def cst := And.intro @clt_l <| And.intro @cle_l <| And.intro @ceq_l <| And.intro @clt_r <| And.intro @cle_r <| And.intro @ceq_r <| And.intro @wadd_r <| And.intro @wadd_l <| @wsub_r

end Go.Wx
