/-
  A call that was run by itself, on arguments without an address: what it gave may stand in for it: a value without an address, or one with one new row of such values.
-/
import Derived.Test.YtfgnpegkcmkeaaaDoorLyG
set_option linter.unusedSimpArgs false
set_option linter.unusedVariables false
namespace Go.Lx
open Go.Shelf Go.Proofs
noncomputable section

mutual
def flat : V → Bool
  | .bool _ | .int _ _ | .str _ | .nilptr | .nilslice | .nilmap | .nilfunc | .nilIface | .gptr _ _ => true
  | .agg cs => flatL cs
  | .tuple cs => flatL cs
  | .iface _ v => flat v
  | _ => false
def flatL : List V → Bool
  | [] => true
  | v :: l => flat v && flatL l
end

section
variable {μ μ' : Mu} {ν : Nat → Value}
mutual
theorem flat_rel : ∀ {v : V} {r : Value}, flat v = true → VRel μ ν v r → VRel μ' ν v r
  | .bool _, _, _, .bool b => .bool b
  | .int _ _, _, _, .int k n => .int k n
  | .str _, _, _, .str b => .str b
  | .nilptr, _, _, .nilptr => .nilptr
  | .nilslice, _, _, .nilslice => .nilslice
  | .nilmap, _, _, .nilmap => .nilmap
  | .nilfunc, _, _, .nilfunc => .nilfunc
  | .nilIface, _, _, .nilIface => .nilIface
  | .gptr _ _, _, _, .gptr g o => .gptr g o
  | .agg cs, _, h, .agg hs => .agg (flatL_rel (by simpa [flat] using h) hs)
  | .tuple cs, _, h, .tuple hs => .tuple (flatL_rel (by simpa [flat] using h) hs)
  | .iface t v, _, h, .iface hv => .iface (flat_rel (by simpa [flat] using h) hv)
  | .ptr _ _, _, h, _ => by simp [flat] at h
  | .slice _ _ _ _, _, h, _ => by simp [flat] at h
  | .map _, _, h, _ => by simp [flat] at h
  | .func _ _ _, _, h, _ => by simp [flat] at h
  | .sym _, _, h, _ => by simp [flat] at h
theorem flatL_rel : ∀ {vs : List V} {rs : List Value}, flatL vs = true → VsRel μ ν vs rs → VsRel μ' ν vs rs
  | [], _, _, .nil => .nil
  | v :: l, _, h, .cons hv hs => by
    simp only [flatL, Bool.and_eq_true] at h
    exact .cons (flat_rel h.1 hv) (flatL_rel h.2 hs)
end
end

theorem flatL_get : ∀ {l : List V} {i : Nat} {v : V}, flatL l = true → l[i]? = some v → flat v = true
  | [], i, v, _, h => by simp at h
  | x :: l, i, v, hf, h => by
    simp only [flatL, Bool.and_eq_true] at hf
    cases i with
    | zero => simp at h; subst h; exact hf.1
    | succ i => exact flatL_get hf.2 (by simpa using h)
def sameArgs : List V → List V → Bool
  | [], [] => true
  | .str a :: l, .str b :: m => eqNats a b && sameArgs l m
  | .int k a :: l, .int k' b :: m => decide (k = k') && decide (a = b) && sameArgs l m
  | .bool a :: l, .bool b :: m => decide (a = b) && sameArgs l m
  | _, _ => false

theorem sameArgs_eq : ∀ {a b : List V}, sameArgs a b = true → a = b
  | [], [], _ => rfl
  | [], _ :: _, h => by simp [sameArgs] at h
  | x :: l, b, h => by
    cases b with
    | nil => cases x <;> simp [sameArgs] at h
    | cons y m =>
      cases x <;> cases y <;> simp only [sameArgs, Bool.and_eq_true, decide_eq_true_eq] at h <;> try (cases h; done)
      · obtain ⟨rfl, h2⟩ := h; rw [sameArgs_eq h2]
      · obtain ⟨⟨rfl, rfl⟩, h2⟩ := h; rw [sameArgs_eq h2]
      · obtain ⟨h1, h2⟩ := h; rw [eqNats_iff.1 h1, sameArgs_eq h2]
structure Memo where
  args : List V
  len : Nat
  cells : List V
  elem : TypeId
  rest : List V
def gave (r : R V) (k : Nat) : Option (V × Option Ob) := R.rec (motive := fun _ => Option (V × Option Ob)) (fun v s => some (v, s.heap.get k)) (fun _ => none) r

end
end Go.Lx
