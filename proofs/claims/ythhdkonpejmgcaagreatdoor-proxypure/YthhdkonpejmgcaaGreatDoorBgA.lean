/-
  Several texts, joined.
-/
import Derived.Test.YthhdkonpejmgcaaGreatDoorProg
import Derived.Shaped
import Derived.WideWitness
import Derived.Lay
import Derived.KernelRfl
/-
  No variable waits for its first use.
-/
namespace Go.Proofs.YthhdkonpejmgcaaGreatDoor
open Go Go.Proofs
set_option linter.unusedVariables false
set_option maxRecDepth 100000
/-- what a function readies -/
def rdy (f : Func) : List Nat := (f.body.map readies).getD []
theorem flat_nil : ∀ (n : Nat) (l : List Func), l.length ≤ 32 * n → (∀ i, i < n → ((l.drop (32 * i)).take 32).flatMap rdy = []) → l.flatMap rdy = []
  | 0, l, hl, _ => by
    have : l = [] := List.eq_nil_of_length_eq_zero (by omega)
    subst this; rfl
  | n + 1, l, hl, h => by
    have h0 := h 0 (by omega)
    rw [Nat.mul_zero, List.drop_zero] at h0
    have ih := flat_nil n (l.drop 32) (by rw [List.length_drop]; omega) fun i hi => by
      rw [List.drop_drop, show 32 + 32 * i = 32 * (i + 1) by omega]
      exact h (i + 1) (by omega)
    rw [← List.take_append_drop 32 l, List.flatMap_append, h0, ih]
    rfl
/-- the start, what waits being told -/
noncomputable def beginWq (q : Question) (p : Program) (waits : Array Bool) (tape : Nat → Question → Nat) (os : Os) : Machine :=
  let hasCpu := p.globals.any (·.name == "internal/cpu.X86")
  { world := { heap := (p.globals.mapIdx fun i g =>
                         let zero := (linked p g).getD ((((p.types[g.type]?).bind (·.zero)).map (·.cells)).getD #[])
                         if waits.getD i false then .pending zero g.type else
                         .cells (if g.name == "internal/cpu.X86" then cpuFlags p g.type zero (q.cut (tape 0 q)) else zero) g.type).push
                         (.cells ((Array.range p.types.size).map fun t => .int .u64 (Int.ofNat t)) 0)
                         |>.push (.map #[] 0)
                         |>.push (.finalizers #[] none)
                         |>.push (.cells #[.bool false] 0)
                         |>.push (.finalizers #[] none),
               tape, drawn := if hasCpu then 1 else 0, os, output := #[] },
    gs := #[{ frame := Frame.enter p (p.initFrom 0) #[] .normal, callers := [], status := .running, dying := none }],
    rest := { timers := #[], alone := none, slice := none } }
theorem begin_ex : ∃ q : Question, ∀ (p : Program) (tape : Nat → Question → Nat) (os : Os), begin p tape os = beginWq q p (waiting p) tape os := ⟨_, fun _ _ _ => rfl⟩
noncomputable def theQ : Question := begin_ex.choose
noncomputable def beginW (p : Program) (waits : Array Bool) (tape : Nat → Question → Nat) (os : Os) : Machine := beginWq theQ p waits tape os
theorem begin_eq (p : Program) (tape : Nat → Question → Nat) (os : Os) : begin p tape os = beginW p (waiting p) tape os := begin_ex.choose_spec p tape os
end Go.Proofs.YthhdkonpejmgcaaGreatDoor

/-
  What functions ready: nothing.
-/
namespace Go.Proofs.YthhdkonpejmgcaaGreatDoor
open Go Go.Proofs
set_option linter.unusedVariables false
set_option maxRecDepth 100000
theorem rd0 : ((Tryz.prog.funcs.toList.drop (32 * 0)).take 32).flatMap rdy = [] := by kernel_rfl
theorem rd1 : ((Tryz.prog.funcs.toList.drop (32 * 1)).take 32).flatMap rdy = [] := by kernel_rfl
theorem rd2 : ((Tryz.prog.funcs.toList.drop (32 * 2)).take 32).flatMap rdy = [] := by kernel_rfl
theorem rd3 : ((Tryz.prog.funcs.toList.drop (32 * 3)).take 32).flatMap rdy = [] := by kernel_rfl
theorem rd4 : ((Tryz.prog.funcs.toList.drop (32 * 4)).take 32).flatMap rdy = [] := by kernel_rfl
theorem rd5 : ((Tryz.prog.funcs.toList.drop (32 * 5)).take 32).flatMap rdy = [] := by kernel_rfl
theorem rd6 : ((Tryz.prog.funcs.toList.drop (32 * 6)).take 32).flatMap rdy = [] := by kernel_rfl
end Go.Proofs.YthhdkonpejmgcaaGreatDoor

/-
  What functions ready: nothing.
-/
namespace Go.Proofs.YthhdkonpejmgcaaGreatDoor
open Go Go.Proofs
set_option linter.unusedVariables false
set_option maxRecDepth 100000
theorem rd7 : ((Tryz.prog.funcs.toList.drop (32 * 7)).take 32).flatMap rdy = [] := by kernel_rfl
theorem rd8 : ((Tryz.prog.funcs.toList.drop (32 * 8)).take 32).flatMap rdy = [] := by kernel_rfl
theorem rd9 : ((Tryz.prog.funcs.toList.drop (32 * 9)).take 32).flatMap rdy = [] := by kernel_rfl
theorem rd10 : ((Tryz.prog.funcs.toList.drop (32 * 10)).take 32).flatMap rdy = [] := by kernel_rfl
theorem rd11 : ((Tryz.prog.funcs.toList.drop (32 * 11)).take 32).flatMap rdy = [] := by kernel_rfl
theorem rd12 : ((Tryz.prog.funcs.toList.drop (32 * 12)).take 32).flatMap rdy = [] := by kernel_rfl
theorem rd13 : ((Tryz.prog.funcs.toList.drop (32 * 13)).take 32).flatMap rdy = [] := by kernel_rfl
end Go.Proofs.YthhdkonpejmgcaaGreatDoor

/-
  What functions ready: nothing.
-/
namespace Go.Proofs.YthhdkonpejmgcaaGreatDoor
open Go Go.Proofs
set_option linter.unusedVariables false
set_option maxRecDepth 100000
theorem rd14 : ((Tryz.prog.funcs.toList.drop (32 * 14)).take 32).flatMap rdy = [] := by kernel_rfl
theorem rd15 : ((Tryz.prog.funcs.toList.drop (32 * 15)).take 32).flatMap rdy = [] := by kernel_rfl
theorem rd16 : ((Tryz.prog.funcs.toList.drop (32 * 16)).take 32).flatMap rdy = [] := by kernel_rfl
theorem rd17 : ((Tryz.prog.funcs.toList.drop (32 * 17)).take 32).flatMap rdy = [] := by kernel_rfl
theorem rd18 : ((Tryz.prog.funcs.toList.drop (32 * 18)).take 32).flatMap rdy = [] := by kernel_rfl
theorem rd19 : ((Tryz.prog.funcs.toList.drop (32 * 19)).take 32).flatMap rdy = [] := by kernel_rfl
theorem rd20 : ((Tryz.prog.funcs.toList.drop (32 * 20)).take 32).flatMap rdy = [] := by kernel_rfl
end Go.Proofs.YthhdkonpejmgcaaGreatDoor

/-
  What functions ready: nothing.
-/
namespace Go.Proofs.YthhdkonpejmgcaaGreatDoor
open Go Go.Proofs
set_option linter.unusedVariables false
set_option maxRecDepth 100000
theorem rd21 : ((Tryz.prog.funcs.toList.drop (32 * 21)).take 32).flatMap rdy = [] := by kernel_rfl
theorem rd22 : ((Tryz.prog.funcs.toList.drop (32 * 22)).take 32).flatMap rdy = [] := by kernel_rfl
theorem rd23 : ((Tryz.prog.funcs.toList.drop (32 * 23)).take 32).flatMap rdy = [] := by kernel_rfl
theorem rd24 : ((Tryz.prog.funcs.toList.drop (32 * 24)).take 32).flatMap rdy = [] := by kernel_rfl
theorem rd25 : ((Tryz.prog.funcs.toList.drop (32 * 25)).take 32).flatMap rdy = [] := by kernel_rfl
end Go.Proofs.YthhdkonpejmgcaaGreatDoor

/-
  No variable waits.
-/
namespace Go.Proofs.YthhdkonpejmgcaaGreatDoor
open Go Go.Proofs
set_option linter.unusedVariables false
set_option maxRecDepth 100000
theorem no_ready : (Tryz.prog.funcs.toList.flatMap fun f => (f.body.map readies).getD []) = [] := flat_nil 26 Tryz.prog.funcs.toList (Nat.le_of_ble_eq_true (by kernel_rfl)) fun i hi => by
  match i, hi with
  | 0, _ => exact rd0
  | 1, _ => exact rd1
  | 2, _ => exact rd2
  | 3, _ => exact rd3
  | 4, _ => exact rd4
  | 5, _ => exact rd5
  | 6, _ => exact rd6
  | 7, _ => exact rd7
  | 8, _ => exact rd8
  | 9, _ => exact rd9
  | 10, _ => exact rd10
  | 11, _ => exact rd11
  | 12, _ => exact rd12
  | 13, _ => exact rd13
  | 14, _ => exact rd14
  | 15, _ => exact rd15
  | 16, _ => exact rd16
  | 17, _ => exact rd17
  | 18, _ => exact rd18
  | 19, _ => exact rd19
  | 20, _ => exact rd20
  | 21, _ => exact rd21
  | 22, _ => exact rd22
  | 23, _ => exact rd23
  | 24, _ => exact rd24
  | 25, _ => exact rd25
  | k + 26, h => exact absurd h (by omega)
theorem waits : waiting Tryz.prog = Array.replicate Tryz.prog.globals.size false := by
  unfold waiting
  rw [no_ready]
  rfl
noncomputable def W0 : Array Bool := Array.replicate Tryz.prog.globals.size false
theorem begin0 (tape : Nat → Question → Nat) (os : Os) : begin Tryz.prog tape os = beginW Tryz.prog W0 tape os := by
  rw [begin_eq, waits]
  rfl
end Go.Proofs.YthhdkonpejmgcaaGreatDoor
