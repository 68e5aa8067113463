/-
  Several texts, joined.
-/
import Derived.Test.YthhdkonpejmgcaaGreatDoorLy1
import Derived.ProofKit
import Derived.OpenShut
import Derived.LaidMore
import Derived.Lay
import Derived.Shelf.Strings.Search2
import Derived.Handed
import Derived.Shelf.Strings.Builder2
import Derived.Shelf.Unicode.DecodeAny
import Derived.ChangeShapes
/-
  Package-level variables that a row lists: what the world holds there; functions that stand in at one of several closures.
-/
set_option linter.unusedSimpArgs false
set_option linter.unusedVariables false
namespace Go.Lx
noncomputable section
open Go.ChangeShapes Go.WideShapes Go.ChangeAt Go.RowKit
def Holds (w : World) (g : Nat) (c : List V) : Prop := ∃ rc e frz, w.heap[g]? = some (.cells rc e frz) ∧ ∀ (i : Nat) (v : V), c[i]? = some v → ∃ r, rc[i]? = some r ∧ ∀ μ ν, VRel μ ν v r



theorem Globs.add {gl : T (List V)} {w : World} {g : Nat} {c : List V} (h : Globs gl (fun _ => Option.none) .leaf w) (hc : Holds w g c) (hne : c.isEmpty = false := by kernel_rfl) (hnt : (c.length == 20) = false := by kernel_rfl) : Globs (gl.set g (some c)) (fun _ => Option.none) .leaf w where
  there := fun g' c' h' => by
    rw [T.get_set] at h'
    split at h'
    · rename_i e; subst e; injection h' with h'; subst h'; exact hc
    · exact h.there g' c' h'
  apart := fun g c k p h1 h2 => by cases h2
  face := fun g' h' => by
    rw [T.get_set] at h'
    split at h'
    · injection h' with h'; subst h'; cases hne
    · exact h.face g' h'
  tab := fun g' c' rc e frz h' hl hw => by
    rw [T.get_set] at h'
    split at h'
    · injection h' with h'; subst h'; simp [hl] at hnt
    · exact h.tab g' c' rc e frz h' hl hw

def atClosure (g : FuncId) (a b : List V → M V) (vs : List V) : M V := match vs with
  | [.func f _ _] => bif Nat.beq f g then a vs else b vs
  | _ => b vs

theorem extSum_at {P : Program} {gl : T (List V)} {f g : FuncId} {a b : List V → M V} (ha : ExtSum P gl f a) (hb : ExtSum P gl f b) : ExtSum P gl f (atClosure g a b) := by
  have key : ∀ vs, atClosure g a b vs = a vs ∨ atClosure g a b vs = b vs := by
    intro vs
    unfold atClosure
    split
    · rename_i f' _ _
      cases Nat.beq f' g
      · exact .inr rfl
      · exact .inl rfl
    · exact .inr rfl
  refine ⟨fun vs => ?_, fun vs v s s' w μ ν rs h => ?_⟩
  · rcases key vs with e | e
    · rw [e]; exact ha.1 vs
    · rw [e]; exact hb.1 vs
  · rcases key vs with e | e
    · rw [e] at h; exact ha.2 vs v s s' w μ ν rs h
    · rw [e] at h; exact hb.2 vs v s s' w μ ν rs h

end
end Go.Lx

/-
  Functions that stand in by a contract of the shelf or by a run of their own: strings' Index (whatever the variable MaxLen holds), closed functions. A variable of the program's shape.
-/
set_option linter.unusedSimpArgs false
set_option linter.unusedVariables false
namespace Go.Lx
open Go.ChangeShapes Go.WideShapes Go.ChangeAt Go.RowKit Go.Shelf Go.Proofs

def constTrue (vs : List V) : M V := match vs with
  | [] => Lx.ret (.bool true)
  | _ => err "const"

theorem extSum_true (c : Cfg) (hm : c.P.follows .mixedOrders = true) (hs : SumOk c) {n : Nat} {f : FuncId} (h : yes (callM c (n + 1) f [] st0) = true) (hsu : c.sum f = none) (he : Enters c.P f) {gl : T (List V)} (hgl : gl = c.gl) : ExtSum c.P gl f constTrue := by
  subst hgl
  refine ⟨fun vs => ?_, fun vs v s s' w μ ν rs h' hr hf hg ha => ?_⟩
  · cases vs with
    | nil => exact Local.ret _
    | cons a l => exact Local.err _
  · cases vs with
    | cons a l => exact (err_ok (s := s) h').elim
    | nil =>
      cases ha
      obtain ⟨rfl, rfl⟩ := ret_ok h'
      obtain ⟨s2, h2⟩ := yes_ok h
      left
      refine ⟨he _ _, (callM_calls c hm hs h2 hsu (μ := fun _ => none) (ν := ν) (rs := []) rel_empty (fun _ _ _ => rfl) ⟨hg.there, fun g c k p h1 h2 => (by cases h2), hg.face, hg.tab⟩ .nil).mono ?_⟩
      rintro e w' ⟨r, rfl, μ1, hv, st⟩
      cases hv
      have hblk : ∀ b, b < w.heap.size → w'.heap[b]? = w.heap[b]? := fun b hb => st.block b hb fun _ _ h => by cases h
      refine ⟨_, rfl, μ, .bool _, Mu.le_refl _, fun _ _ => rfl, ⟨fun k o hk => ?_, hr.sep⟩, st.os, st.tape, st.output, st.size, fun b hb _ => hblk b hb, fun k p h1 h2 => (by rw [h1] at h2; cases h2), fun j c0 q h1 hq => by
        obtain ⟨q', hq', ho⟩ := hr.ob j _ h1
        rw [hq] at hq'; cases hq'
        exact ⟨h1, hblk _ ho.there⟩⟩
      obtain ⟨p, hp, hor⟩ := hr.ob k o hk
      exact ⟨p, hp, hor.mono (Mu.le_refl _) (hblk _ hor.there)⟩

end Go.Lx

/-
  A call that was run by itself, on arguments without an address: what it gave may stand in for it: a value without an address, or one with one new row of such values.
-/
set_option linter.unusedSimpArgs false
set_option linter.unusedVariables false
namespace Go.Lx
open Go.Shelf Go.Proofs
noncomputable section

section
variable {μ μ' : Mu} {ν : Nat → Value}
end

structure Memo where
  args : List V
  len : Nat
  cells : List V
  elem : TypeId
  rest : List V

end
end Go.Lx

/-
  strings.Builder's grow, at a Builder without a buffer: it may stand in (its new row's bytes are open).
-/
set_option linter.unusedSimpArgs false
set_option linter.unusedVariables false
namespace Go.Lx
open Go.Shelf Go.Proofs Go.RowKit

section
variable {P : Program} {ρ : Ren}

end
end Go.Lx

/-
  utf8.DecodeRuneInString stands in at every text, by the shelf's contract; its table of pairs as a row lists it.
-/
set_option linter.unusedSimpArgs false
set_option linter.unusedVariables false
namespace Go.Lx
noncomputable section
open Go.ChangeShapes Go.WideShapes Go.ChangeAt Go.RowKit Go.Proofs Go.Shelf

end
end Go.Lx

/-
  A call on known arguments that gives one new row: the row stands in (as LyH's memo, its result the row alone).
-/
namespace Go.Lx
open Go.Proofs
set_option linter.unusedVariables false
noncomputable section

structure Memo1 where
  args : List V
  len : Nat
  cells : List V
  elem : TypeId
  opn : Bool
end
end Go.Lx

/-
  Several calls on known arguments, each of which gives one new row: the rows stand in.
-/
namespace Go.Lx
open Go.Proofs
set_option linter.unusedVariables false
noncomputable section

end
end Go.Lx

/-
  A function of a struct of a number, a row of texts and a number, that writes nothing but what is its own, stands in as what it answers.
-/
namespace Go.Lx
open Go.Proofs
set_option linter.unusedVariables false
set_option linter.unusedSimpArgs false
noncomputable section

end
end Go.Lx

/-
  A struct that came in, with a row of texts: what its cells are.
-/
namespace Go.Lx
open Go.Proofs
set_option linter.unusedVariables false
set_option linter.unusedSimpArgs false

section
variable {H : Type} {enc : TypeId × Value → H} {P : Program} {w : World} {spare : Nat → Bool} {held : Bool}

end
end Go.Lx

/-
  Rows of flat structs that came in: what their cells are.
-/
namespace Go.Lx
open Go.Proofs
set_option linter.unusedVariables false
set_option linter.unusedSimpArgs false

theorem mapM_get' {α β : Type} {f : α → Option β} : ∀ {l : List α} {r : List β}, l.mapM f = some r → ∀ x ∈ l, ∃ y, f x = some y
  | [], r, h, x, hx => by cases hx
  | a :: l, r, h, x, hx => by
    rw [List.mapM_cons] at h
    cases ha : f a with
    | none => rw [ha] at h; cases h
    | some b =>
      rw [ha] at h
      cases hl : l.mapM f with
      | none => rw [hl] at h; cases h
      | some r' =>
        rcases List.mem_cons.1 hx with rfl | hx
        · exact ⟨b, ha⟩
        · exact mapM_get' hl x hx

section
variable {H : Type} {enc : TypeId × Value → H} {P : Program} {w : World} {spare : Nat → Bool} {held : Bool}
theorem trod_field' {t : TypeId} {fs : Array Field} {f : Field} {cs : List Value} {fuel : Nat} {x : DataW H × List MemPlace} (hu : P.underlying t = some (.struct fs)) (hf : f ∈ fs.toList) (h : DataW.trod enc P w 0 spare held fuel t cs = some x) :
    ∃ y, DataW.trod enc P w 0 spare held (fuel - 1) f.type ((cs.drop f.offset).take (P.cellsOf f.type)) = some y := by
  cases fuel with
  | zero => cases h
  | succ fuel =>
    unfold DataW.trod at h
    rw [hu] at h
    simp only at h
    split at h
    · cases hm : fs.toList.mapM (fun f => DataW.trod enc P w 0 spare held fuel f.type ((cs.drop f.offset).take (P.cellsOf f.type))) with
      | none => rw [hm] at h; cases h
      | some r => exact mapM_get' hm f hf
    · cases h

theorem mapM_at {α β : Type} {f : α → Option β} : ∀ {l : List α} {r : List β}, l.mapM f = some r → r.length = l.length ∧ ∀ j, j < l.length → (l[j]?).bind f = r[j]?
  | [], r, h => by
    have : r = [] := by
      have h : some [] = some r := h
      exact (Option.some.inj h).symm
    subst this
    exact ⟨rfl, fun j hj => by cases hj⟩
  | a :: l, r, h => by
    rw [List.mapM_cons] at h
    cases ha : f a with
    | none => rw [ha] at h; cases h
    | some b =>
      rw [ha] at h
      cases hl : l.mapM f with
      | none => rw [hl] at h; cases h
      | some r' =>
        rw [hl] at h
        have : b :: r' = r := by
          have h : some (b :: r') = some r := h
          exact Option.some.inj h
        subst this
        obtain ⟨h1, h2⟩ := mapM_at hl
        refine ⟨by simp [h1], fun j hj => ?_⟩
        cases j with
        | zero => simpa using ha
        | succ j => simpa using h2 j (by simpa using hj)
theorem trod_int {e : TypeId} {k : IntKind} {fuel : Nat} {cs : List Value} {x : DataW H × List MemPlace} (he : P.underlying e = some (.int k)) (h : DataW.trod enc P w 0 spare held fuel e cs = some x) : ∃ n, cs = [.int k n] ∧ (Lit.int k n).wf = true := by
  cases fuel with
  | zero => cases h
  | succ fuel =>
    unfold DataW.trod at h
    rw [he] at h
    cases cs with
    | nil => cases h
    | cons v l => cases l with
      | cons u l => cases v <;> cases h
      | nil =>
        cases v <;> try (cases h; done)
        simp only at h
        split at h
        · rename_i hk
          obtain ⟨rfl, hw⟩ := hk
          exact ⟨_, rfl, hw⟩
        · cases h
theorem trod_bool {e : TypeId} {fuel : Nat} {cs : List Value} {x : DataW H × List MemPlace} (he : P.underlying e = some .bool) (h : DataW.trod enc P w 0 spare held fuel e cs = some x) : ∃ b, cs = [.bool b] := by
  cases fuel with
  | zero => cases h
  | succ fuel =>
    unfold DataW.trod at h
    rw [he] at h
    cases cs with
    | nil => cases h
    | cons v l => cases l with
      | cons u l => cases v <;> cases h
      | nil =>
        cases v <;> first | exact ⟨_, rfl⟩ | (cases h; done)
theorem trod_str {e : TypeId} {fuel : Nat} {cs : List Value} {x : DataW H × List MemPlace} (he : P.underlying e = some .string) (h : DataW.trod enc P w 0 spare held fuel e cs = some x) : ∃ s, cs = [.string s] := by
  cases fuel with
  | zero => cases h
  | succ fuel =>
    unfold DataW.trod at h
    rw [he] at h
    cases cs with
    | nil => cases h
    | cons v l => cases l with
      | cons u l => cases v <;> cases h
      | nil =>
        cases v <;> first | exact ⟨_, rfl⟩ | (cases h; done)
theorem trod_struct_len {t : TypeId} {fs : Array Field} {cs : List Value} {fuel : Nat} {x : DataW H × List MemPlace} (hu : P.underlying t = some (.struct fs)) (h : DataW.trod enc P w 0 spare held fuel t cs = some x) : cs.length = P.cellsOf t := by
  cases fuel with
  | zero => cases h
  | succ fuel =>
    unfold DataW.trod at h
    rw [hu] at h
    simp only at h
    split at h
    · assumption
    · cases h
end
end Go.Lx
