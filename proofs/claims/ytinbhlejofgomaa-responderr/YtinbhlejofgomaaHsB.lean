/-
  Several texts of one walk, joined.
-/
import Derived.Test.YtinbhlejofgomaaHsA
set_option linter.unusedSimpArgs false
set_option linter.unusedVariables false
set_option linter.unusedSectionVars false
set_option linter.defProp false
set_option maxRecDepth 20000
set_option maxHeartbeats 2000000
namespace Go.Proofs.Ytinbhlejofgomaa
open Int (reduceLE reduceLT reduceToNat)
open Nat (reduceLeDiff reduceEqDiff reduceAdd)
open Go.Proofs Go.Lx Go.Wx Go.IntWalk
noncomputable section
def shapeF (t : Int) : Int := if t = 1 ∨ t = 9 ∨ t = 14 ∨ t = 31 then 0 else if t = 2 ∨ t = 3 ∨ t = 22 then 1 else if t = 12 then 2 else if t = 23 then 3 else if t = 24 then 4 else if t = 25 ∨ t = 26 then 5 else if t = 27 then 6 else if t = 28 then 7 else 8
def answerF (t : Int) : Int := if t = 1 ∨ t = 24 ∨ t = 25 then 1 else if t = 2 ∨ t = 14 ∨ t = 26 ∨ t = 31 ∨ t = 12 then 2 else if t = 27 then 3 else if t = 9 then 4 else if t = 3 ∨ t = 23 then 5 else if t = 22 then 6 else if t = 28 then 7 else if t = 17 then 8 else 9
def fileS (s : RS) (l : List Nat) : RS × Int := if s.nx = none then (s, 9) else @ite _ s.wants (Classical.propDecidable _) ({ s with wants := 0 < l.length }, 0) (s, 6)
variable {S : Set0} (hS : StdR S)
include hS
theorem wants_spec {X : RX} {n0 r : Nat} {s : RS} {cv tv : V} {h : H} (a : RR X n0 r s cv tv h) : Exact S.cfg 18 [.ptr r 0] h (bo s.wants) := by
  refine into Try.f18 _ Try.func18 (hS.ownR _ (by decide)) rfl rfl (by kernel_rfl) (by kernel_rfl) ?_
  have g := a.get
  unfold rsC at g
  simp +contextual (disch := first | (simp only [fq]; done) | omega | (simp only [Knx]; omega) | (apply Nat.le_antisymm <;> simp only [Knx] <;> omega) | fail) only [wpy, fW, reduceLE, reduceLT, reduceLeDiff, UInt8.reduceToNat, ↓reduceIte, reduceEqDiff, reduceAdd, reduceCtorEq, reduceToNat, Try.f18]
  refine callF_exact (none_spec hS a) ?_
  simp +contextual (disch := first | (simp only [fq]; done) | omega | (simp only [Knx]; omega) | (apply Nat.le_antisymm <;> simp only [Knx] <;> omega) | fail) only [wpy, fW, reduceLE, reduceLT, reduceLeDiff, UInt8.reduceToNat, ↓reduceIte, reduceEqDiff, reduceAdd, reduceCtorEq, reduceToNat, Try.f18, g]
theorem over_sp {X : RX} {n0 r : Nat} {s : RS} {cv tv : V} {h : H} (a : RR X n0 r s cv tv h) : Exact S.cfg 15 [.ptr r 0] h (bo (s.nx = none)) := by
  refine into Try.f15 _ Try.func15 (hS.ownR _ (by decide)) rfl rfl (by kernel_rfl) (by kernel_rfl) ?_
  have g := a.get
  unfold rsC at g
  simp +contextual (disch := first | (simp only [fq]; done) | omega | (simp only [Knx]; omega) | (apply Nat.le_antisymm <;> simp only [Knx] <;> omega) | fail) only [wpy, fW, reduceLE, reduceLT, reduceLeDiff, UInt8.reduceToNat, ↓reduceIte, reduceEqDiff, reduceAdd, reduceCtorEq, reduceToNat, Try.f15]
  refine callF_exact (none_spec hS a) ?_
  cases hf : s.nx with
  | none =>
    rw [hf] at g
    unfold fnV at g
    simp +contextual (disch := first | (simp only [fq]; done) | omega | (simp only [Knx]; omega) | (apply Nat.le_antisymm <;> simp only [Knx] <;> omega) | fail) only [wpy, fW, reduceLE, reduceLT, reduceLeDiff, UInt8.reduceToNat, ↓reduceIte, reduceEqDiff, reduceAdd, reduceCtorEq, reduceToNat, Try.f15, g, nf_none]
  | some f =>
    rw [hf] at g
    unfold fnV at g
    rw [show ((some f : Option FuncId) = none) = False by simp]
    simp +contextual (disch := first | (simp only [fq]; done) | omega | (simp only [Knx]; omega) | (apply Nat.le_antisymm <;> simp only [Knx] <;> omega) | fail) only [wpy, fW, reduceLE, reduceLT, reduceLeDiff, UInt8.reduceToNat, ↓reduceIte, reduceEqDiff, reduceAdd, reduceCtorEq, reduceToNat, Try.f15, g, nf_some]
theorem may_spec {X : RX} {n0 r : Nat} {s : RS} {cv tv : V} {h : H} (a : RR X n0 r s cv tv h) : Exact S.cfg 19 [.ptr r 0] h (bo (s.may ∧ ¬ s.wants)) := by
  refine into Try.f19 _ Try.func19 (hS.ownR _ (by decide)) rfl rfl (by kernel_rfl) (by kernel_rfl) ?_
  have g := a.get
  unfold rsC at g
  simp +contextual (disch := first | (simp only [fq]; done) | omega | (simp only [Knx]; omega) | (apply Nat.le_antisymm <;> simp only [Knx] <;> omega) | fail) only [wpy, fW, reduceLE, reduceLT, reduceLeDiff, UInt8.reduceToNat, ↓reduceIte, reduceEqDiff, reduceAdd, reduceCtorEq, reduceToNat, Try.f19]
  refine callF_exact (none_spec hS a) ?_
  by_cases hm : s.may
  · have hm' := eq_true hm
    simp +contextual (disch := first | (simp only [fq]; done) | omega | (simp only [Knx]; omega) | (apply Nat.le_antisymm <;> simp only [Knx] <;> omega) | fail) only [wpy, fW, reduceLE, reduceLT, reduceLeDiff, UInt8.reduceToNat, ↓reduceIte, reduceEqDiff, reduceAdd, reduceCtorEq, reduceToNat, Try.f19, g, hm']
  · simp +contextual (disch := first | (simp only [fq]; done) | omega | (simp only [Knx]; omega) | (apply Nat.le_antisymm <;> simp only [Knx] <;> omega) | fail) only [wpy, fW, reduceLE, reduceLT, reduceLeDiff, UInt8.reduceToNat, ↓reduceIte, reduceEqDiff, reduceAdd, reduceCtorEq, reduceToNat, Try.f19, g, hm]
theorem file_spec {X : RX} {n0 r : Nat} {s : RS} {cv tv v : V} {l : List Nat} {h : H} (a : RR X n0 r s cv tv h) (b : BS 5 h v l) : callW S.cfg (· = r) 17 [.ptr r 0, v] h fun w h' => w = .int .i64 (fileS s l).2 ∧ RP X n0 r (fileS s l).1 cv tv h h' := by
  refine into Try.f17 _ Try.func17 (hS.ownR _ (by decide)) rfl rfl (by kernel_rfl) (by kernel_rfl) ?_
  have g := a.get
  unfold rsC at g
  have a1 := b.len 5
  simp +contextual (disch := first | (simp only [fq]; done) | omega | (simp only [Knx]; omega) | (apply Nat.le_antisymm <;> simp only [Knx] <;> omega) | fail) only [wpy, fW, reduceLE, reduceLT, reduceLeDiff, UInt8.reduceToNat, ↓reduceIte, reduceEqDiff, reduceAdd, reduceCtorEq, reduceToNat, Try.f17]
  refine callF_exact (none_spec hS a) ?_
  unfold fileS
  cases hf : s.nx with
  | none =>
    rw [hf] at g
    unfold fnV at g
    rw [if_pos rfl]
    simp +contextual (disch := first | (simp only [fq]; done) | omega | (simp only [Knx]; omega) | (apply Nat.le_antisymm <;> simp only [Knx] <;> omega) | fail) only [wpy, fW, reduceLE, reduceLT, reduceLeDiff, UInt8.reduceToNat, ↓reduceIte, reduceEqDiff, reduceAdd, reduceCtorEq, reduceToNat, Try.f17, g, nf_none]
    exact RP.same a (Ext.refl h)
  | some f =>
    rw [if_neg (fun q => by cases q)]
    by_cases hw : s.wants
    · rw [if_pos hw]
      have hw' := eq_true hw
      rw [hf] at g
      unfold fnV at g
      simp +contextual (disch := first | (simp only [fq]; done) | omega | (simp only [Knx]; omega) | (apply Nat.le_antisymm <;> simp only [Knx] <;> omega) | fail) only [wpy, fW, reduceLE, reduceLT, reduceLeDiff, UInt8.reduceToNat, ↓reduceIte, reduceEqDiff, reduceAdd, reduceCtorEq, reduceToNat, Try.f17, g, nf_some, hw', a1]
      exact ⟨a.put (s' := { s with nx := some f, wants := 0 < l.length }) rfl, (But.refl r h).put _⟩
    · rw [if_neg hw]
      rw [hf] at g
      unfold fnV at g
      simp +contextual (disch := first | (simp only [fq]; done) | omega | (simp only [Knx]; omega) | (apply Nat.le_antisymm <;> simp only [Knx] <;> omega) | fail) only [wpy, fW, reduceLE, reduceLT, reduceLeDiff, UInt8.reduceToNat, ↓reduceIte, reduceEqDiff, reduceAdd, reduceCtorEq, reduceToNat, Try.f17, g, nf_some, hw]
      exact RP.same a (Ext.refl h)
theorem shape_spec (t : Int) (h : H) : Pure S.cfg 64 [.int .u8 t] h fun v _ => v = .int .i64 (shapeF t) := by
  refine into Try.f64 _ Try.func64 (hS.ownR _ (by decide)) rfl rfl (by kernel_rfl) (by kernel_rfl) ?_
  simp +contextual (disch := first | (simp only [fq]; done) | omega | (simp only [Knx]; omega) | (apply Nat.le_antisymm <;> simp only [Knx] <;> omega) | fail) only [wpyr, fW, reduceLE, reduceLT, reduceLeDiff, UInt8.reduceToNat, ↓reduceIte, reduceEqDiff, reduceAdd, reduceCtorEq, reduceToNat, Try.f64]
  by_cases c1 : t = 1
  · refine cond_yes (p := t = 1) (by simp +contextual (disch := first | (simp only [fq]; done) | omega | (simp only [Knx]; omega) | (apply Nat.le_antisymm <;> simp only [Knx] <;> omega) | fail) only [wpy, fW, reduceLE, reduceLT, reduceLeDiff, UInt8.reduceToNat, ↓reduceIte, reduceEqDiff, reduceAdd, reduceCtorEq, reduceToNat]) c1 ?_
    simp +contextual (disch := first | (simp only [fq]; done) | omega | (simp only [Knx]; omega) | (apply Nat.le_antisymm <;> simp only [Knx] <;> omega) | fail) only [wpyr, fW, reduceLE, reduceLT, reduceLeDiff, UInt8.reduceToNat, ↓reduceIte, reduceEqDiff, reduceAdd, reduceCtorEq, reduceToNat, Try.f64]
    refine cond_yes (p := t = 1) (by simp +contextual (disch := first | (simp only [fq]; done) | omega | (simp only [Knx]; omega) | (apply Nat.le_antisymm <;> simp only [Knx] <;> omega) | fail) only [wpy, fW, reduceLE, reduceLT, reduceLeDiff, UInt8.reduceToNat, ↓reduceIte, reduceEqDiff, reduceAdd, reduceCtorEq, reduceToNat]) c1 ?_
    simp +contextual (disch := first | (simp only [fq]; done) | omega | (simp only [Knx]; omega) | (apply Nat.le_antisymm <;> simp only [Knx] <;> omega) | fail) only [wpy, fW, reduceLE, reduceLT, reduceLeDiff, UInt8.reduceToNat, ↓reduceIte, reduceEqDiff, reduceAdd, reduceCtorEq, reduceToNat, Try.f64]
    exact ⟨Ext.refl _, by subst c1; rfl⟩
  refine cond_no (p := t = 1) (by simp +contextual (disch := first | (simp only [fq]; done) | omega | (simp only [Knx]; omega) | (apply Nat.le_antisymm <;> simp only [Knx] <;> omega) | fail) only [wpy, fW, reduceLE, reduceLT, reduceLeDiff, UInt8.reduceToNat, ↓reduceIte, reduceEqDiff, reduceAdd, reduceCtorEq, reduceToNat]) c1 ?_
  simp +contextual (disch := first | (simp only [fq]; done) | omega | (simp only [Knx]; omega) | (apply Nat.le_antisymm <;> simp only [Knx] <;> omega) | fail) only [wpyr, fW, reduceLE, reduceLT, reduceLeDiff, UInt8.reduceToNat, ↓reduceIte, reduceEqDiff, reduceAdd, reduceCtorEq, reduceToNat, Try.f64]
  by_cases c9 : t = 9
  · refine cond_yes (p := t = 9) (by simp +contextual (disch := first | (simp only [fq]; done) | omega | (simp only [Knx]; omega) | (apply Nat.le_antisymm <;> simp only [Knx] <;> omega) | fail) only [wpy, fW, reduceLE, reduceLT, reduceLeDiff, UInt8.reduceToNat, ↓reduceIte, reduceEqDiff, reduceAdd, reduceCtorEq, reduceToNat]) c9 ?_
    simp +contextual (disch := first | (simp only [fq]; done) | omega | (simp only [Knx]; omega) | (apply Nat.le_antisymm <;> simp only [Knx] <;> omega) | fail) only [wpyr, fW, reduceLE, reduceLT, reduceLeDiff, UInt8.reduceToNat, ↓reduceIte, reduceEqDiff, reduceAdd, reduceCtorEq, reduceToNat, Try.f64]
    refine cond_yes (p := t = 9) (by simp +contextual (disch := first | (simp only [fq]; done) | omega | (simp only [Knx]; omega) | (apply Nat.le_antisymm <;> simp only [Knx] <;> omega) | fail) only [wpy, fW, reduceLE, reduceLT, reduceLeDiff, UInt8.reduceToNat, ↓reduceIte, reduceEqDiff, reduceAdd, reduceCtorEq, reduceToNat]) c9 ?_
    simp +contextual (disch := first | (simp only [fq]; done) | omega | (simp only [Knx]; omega) | (apply Nat.le_antisymm <;> simp only [Knx] <;> omega) | fail) only [wpy, fW, reduceLE, reduceLT, reduceLeDiff, UInt8.reduceToNat, ↓reduceIte, reduceEqDiff, reduceAdd, reduceCtorEq, reduceToNat, Try.f64]
    exact ⟨Ext.refl _, by subst c9; rfl⟩
  refine cond_no (p := t = 9) (by simp +contextual (disch := first | (simp only [fq]; done) | omega | (simp only [Knx]; omega) | (apply Nat.le_antisymm <;> simp only [Knx] <;> omega) | fail) only [wpy, fW, reduceLE, reduceLT, reduceLeDiff, UInt8.reduceToNat, ↓reduceIte, reduceEqDiff, reduceAdd, reduceCtorEq, reduceToNat]) c9 ?_
  simp +contextual (disch := first | (simp only [fq]; done) | omega | (simp only [Knx]; omega) | (apply Nat.le_antisymm <;> simp only [Knx] <;> omega) | fail) only [wpyr, fW, reduceLE, reduceLT, reduceLeDiff, UInt8.reduceToNat, ↓reduceIte, reduceEqDiff, reduceAdd, reduceCtorEq, reduceToNat, Try.f64]
  by_cases c14 : t = 14
  · refine cond_yes (p := t = 14) (by simp +contextual (disch := first | (simp only [fq]; done) | omega | (simp only [Knx]; omega) | (apply Nat.le_antisymm <;> simp only [Knx] <;> omega) | fail) only [wpy, fW, reduceLE, reduceLT, reduceLeDiff, UInt8.reduceToNat, ↓reduceIte, reduceEqDiff, reduceAdd, reduceCtorEq, reduceToNat]) c14 ?_
    simp +contextual (disch := first | (simp only [fq]; done) | omega | (simp only [Knx]; omega) | (apply Nat.le_antisymm <;> simp only [Knx] <;> omega) | fail) only [wpyr, fW, reduceLE, reduceLT, reduceLeDiff, UInt8.reduceToNat, ↓reduceIte, reduceEqDiff, reduceAdd, reduceCtorEq, reduceToNat, Try.f64]
    refine cond_yes (p := t = 14) (by simp +contextual (disch := first | (simp only [fq]; done) | omega | (simp only [Knx]; omega) | (apply Nat.le_antisymm <;> simp only [Knx] <;> omega) | fail) only [wpy, fW, reduceLE, reduceLT, reduceLeDiff, UInt8.reduceToNat, ↓reduceIte, reduceEqDiff, reduceAdd, reduceCtorEq, reduceToNat]) c14 ?_
    simp +contextual (disch := first | (simp only [fq]; done) | omega | (simp only [Knx]; omega) | (apply Nat.le_antisymm <;> simp only [Knx] <;> omega) | fail) only [wpy, fW, reduceLE, reduceLT, reduceLeDiff, UInt8.reduceToNat, ↓reduceIte, reduceEqDiff, reduceAdd, reduceCtorEq, reduceToNat, Try.f64]
    exact ⟨Ext.refl _, by subst c14; rfl⟩
  refine cond_no (p := t = 14) (by simp +contextual (disch := first | (simp only [fq]; done) | omega | (simp only [Knx]; omega) | (apply Nat.le_antisymm <;> simp only [Knx] <;> omega) | fail) only [wpy, fW, reduceLE, reduceLT, reduceLeDiff, UInt8.reduceToNat, ↓reduceIte, reduceEqDiff, reduceAdd, reduceCtorEq, reduceToNat]) c14 ?_
  simp +contextual (disch := first | (simp only [fq]; done) | omega | (simp only [Knx]; omega) | (apply Nat.le_antisymm <;> simp only [Knx] <;> omega) | fail) only [wpyr, fW, reduceLE, reduceLT, reduceLeDiff, UInt8.reduceToNat, ↓reduceIte, reduceEqDiff, reduceAdd, reduceCtorEq, reduceToNat, Try.f64]
  by_cases c31 : t = 31
  · refine cond_yes (p := t = 31) (by simp +contextual (disch := first | (simp only [fq]; done) | omega | (simp only [Knx]; omega) | (apply Nat.le_antisymm <;> simp only [Knx] <;> omega) | fail) only [wpy, fW, reduceLE, reduceLT, reduceLeDiff, UInt8.reduceToNat, ↓reduceIte, reduceEqDiff, reduceAdd, reduceCtorEq, reduceToNat]) c31 ?_
    simp +contextual (disch := first | (simp only [fq]; done) | omega | (simp only [Knx]; omega) | (apply Nat.le_antisymm <;> simp only [Knx] <;> omega) | fail) only [wpy, fW, reduceLE, reduceLT, reduceLeDiff, UInt8.reduceToNat, ↓reduceIte, reduceEqDiff, reduceAdd, reduceCtorEq, reduceToNat, Try.f64]
    exact ⟨Ext.refl _, by subst c31; rfl⟩
  refine cond_no (p := t = 31) (by simp +contextual (disch := first | (simp only [fq]; done) | omega | (simp only [Knx]; omega) | (apply Nat.le_antisymm <;> simp only [Knx] <;> omega) | fail) only [wpy, fW, reduceLE, reduceLT, reduceLeDiff, UInt8.reduceToNat, ↓reduceIte, reduceEqDiff, reduceAdd, reduceCtorEq, reduceToNat]) c31 ?_
  simp +contextual (disch := first | (simp only [fq]; done) | omega | (simp only [Knx]; omega) | (apply Nat.le_antisymm <;> simp only [Knx] <;> omega) | fail) only [wpyr, fW, reduceLE, reduceLT, reduceLeDiff, UInt8.reduceToNat, ↓reduceIte, reduceEqDiff, reduceAdd, reduceCtorEq, reduceToNat, Try.f64]
  by_cases c2 : t = 2
  · refine cond_yes (p := t = 2) (by simp +contextual (disch := first | (simp only [fq]; done) | omega | (simp only [Knx]; omega) | (apply Nat.le_antisymm <;> simp only [Knx] <;> omega) | fail) only [wpy, fW, reduceLE, reduceLT, reduceLeDiff, UInt8.reduceToNat, ↓reduceIte, reduceEqDiff, reduceAdd, reduceCtorEq, reduceToNat]) c2 ?_
    simp +contextual (disch := first | (simp only [fq]; done) | omega | (simp only [Knx]; omega) | (apply Nat.le_antisymm <;> simp only [Knx] <;> omega) | fail) only [wpyr, fW, reduceLE, reduceLT, reduceLeDiff, UInt8.reduceToNat, ↓reduceIte, reduceEqDiff, reduceAdd, reduceCtorEq, reduceToNat, Try.f64]
    refine cond_yes (p := t = 2) (by simp +contextual (disch := first | (simp only [fq]; done) | omega | (simp only [Knx]; omega) | (apply Nat.le_antisymm <;> simp only [Knx] <;> omega) | fail) only [wpy, fW, reduceLE, reduceLT, reduceLeDiff, UInt8.reduceToNat, ↓reduceIte, reduceEqDiff, reduceAdd, reduceCtorEq, reduceToNat]) c2 ?_
    simp +contextual (disch := first | (simp only [fq]; done) | omega | (simp only [Knx]; omega) | (apply Nat.le_antisymm <;> simp only [Knx] <;> omega) | fail) only [wpy, fW, reduceLE, reduceLT, reduceLeDiff, UInt8.reduceToNat, ↓reduceIte, reduceEqDiff, reduceAdd, reduceCtorEq, reduceToNat, Try.f64]
    exact ⟨Ext.refl _, by subst c2; rfl⟩
  refine cond_no (p := t = 2) (by simp +contextual (disch := first | (simp only [fq]; done) | omega | (simp only [Knx]; omega) | (apply Nat.le_antisymm <;> simp only [Knx] <;> omega) | fail) only [wpy, fW, reduceLE, reduceLT, reduceLeDiff, UInt8.reduceToNat, ↓reduceIte, reduceEqDiff, reduceAdd, reduceCtorEq, reduceToNat]) c2 ?_
  simp +contextual (disch := first | (simp only [fq]; done) | omega | (simp only [Knx]; omega) | (apply Nat.le_antisymm <;> simp only [Knx] <;> omega) | fail) only [wpyr, fW, reduceLE, reduceLT, reduceLeDiff, UInt8.reduceToNat, ↓reduceIte, reduceEqDiff, reduceAdd, reduceCtorEq, reduceToNat, Try.f64]
  by_cases c3 : t = 3
  · refine cond_yes (p := t = 3) (by simp +contextual (disch := first | (simp only [fq]; done) | omega | (simp only [Knx]; omega) | (apply Nat.le_antisymm <;> simp only [Knx] <;> omega) | fail) only [wpy, fW, reduceLE, reduceLT, reduceLeDiff, UInt8.reduceToNat, ↓reduceIte, reduceEqDiff, reduceAdd, reduceCtorEq, reduceToNat]) c3 ?_
    simp +contextual (disch := first | (simp only [fq]; done) | omega | (simp only [Knx]; omega) | (apply Nat.le_antisymm <;> simp only [Knx] <;> omega) | fail) only [wpyr, fW, reduceLE, reduceLT, reduceLeDiff, UInt8.reduceToNat, ↓reduceIte, reduceEqDiff, reduceAdd, reduceCtorEq, reduceToNat, Try.f64]
    refine cond_yes (p := t = 3) (by simp +contextual (disch := first | (simp only [fq]; done) | omega | (simp only [Knx]; omega) | (apply Nat.le_antisymm <;> simp only [Knx] <;> omega) | fail) only [wpy, fW, reduceLE, reduceLT, reduceLeDiff, UInt8.reduceToNat, ↓reduceIte, reduceEqDiff, reduceAdd, reduceCtorEq, reduceToNat]) c3 ?_
    simp +contextual (disch := first | (simp only [fq]; done) | omega | (simp only [Knx]; omega) | (apply Nat.le_antisymm <;> simp only [Knx] <;> omega) | fail) only [wpy, fW, reduceLE, reduceLT, reduceLeDiff, UInt8.reduceToNat, ↓reduceIte, reduceEqDiff, reduceAdd, reduceCtorEq, reduceToNat, Try.f64]
    exact ⟨Ext.refl _, by subst c3; rfl⟩
  refine cond_no (p := t = 3) (by simp +contextual (disch := first | (simp only [fq]; done) | omega | (simp only [Knx]; omega) | (apply Nat.le_antisymm <;> simp only [Knx] <;> omega) | fail) only [wpy, fW, reduceLE, reduceLT, reduceLeDiff, UInt8.reduceToNat, ↓reduceIte, reduceEqDiff, reduceAdd, reduceCtorEq, reduceToNat]) c3 ?_
  simp +contextual (disch := first | (simp only [fq]; done) | omega | (simp only [Knx]; omega) | (apply Nat.le_antisymm <;> simp only [Knx] <;> omega) | fail) only [wpyr, fW, reduceLE, reduceLT, reduceLeDiff, UInt8.reduceToNat, ↓reduceIte, reduceEqDiff, reduceAdd, reduceCtorEq, reduceToNat, Try.f64]
  by_cases c22 : t = 22
  · refine cond_yes (p := t = 22) (by simp +contextual (disch := first | (simp only [fq]; done) | omega | (simp only [Knx]; omega) | (apply Nat.le_antisymm <;> simp only [Knx] <;> omega) | fail) only [wpy, fW, reduceLE, reduceLT, reduceLeDiff, UInt8.reduceToNat, ↓reduceIte, reduceEqDiff, reduceAdd, reduceCtorEq, reduceToNat]) c22 ?_
    simp +contextual (disch := first | (simp only [fq]; done) | omega | (simp only [Knx]; omega) | (apply Nat.le_antisymm <;> simp only [Knx] <;> omega) | fail) only [wpy, fW, reduceLE, reduceLT, reduceLeDiff, UInt8.reduceToNat, ↓reduceIte, reduceEqDiff, reduceAdd, reduceCtorEq, reduceToNat, Try.f64]
    exact ⟨Ext.refl _, by subst c22; rfl⟩
  refine cond_no (p := t = 22) (by simp +contextual (disch := first | (simp only [fq]; done) | omega | (simp only [Knx]; omega) | (apply Nat.le_antisymm <;> simp only [Knx] <;> omega) | fail) only [wpy, fW, reduceLE, reduceLT, reduceLeDiff, UInt8.reduceToNat, ↓reduceIte, reduceEqDiff, reduceAdd, reduceCtorEq, reduceToNat]) c22 ?_
  simp +contextual (disch := first | (simp only [fq]; done) | omega | (simp only [Knx]; omega) | (apply Nat.le_antisymm <;> simp only [Knx] <;> omega) | fail) only [wpyr, fW, reduceLE, reduceLT, reduceLeDiff, UInt8.reduceToNat, ↓reduceIte, reduceEqDiff, reduceAdd, reduceCtorEq, reduceToNat, Try.f64]
  by_cases c12 : t = 12
  · refine cond_yes (p := t = 12) (by simp +contextual (disch := first | (simp only [fq]; done) | omega | (simp only [Knx]; omega) | (apply Nat.le_antisymm <;> simp only [Knx] <;> omega) | fail) only [wpy, fW, reduceLE, reduceLT, reduceLeDiff, UInt8.reduceToNat, ↓reduceIte, reduceEqDiff, reduceAdd, reduceCtorEq, reduceToNat]) c12 ?_
    simp +contextual (disch := first | (simp only [fq]; done) | omega | (simp only [Knx]; omega) | (apply Nat.le_antisymm <;> simp only [Knx] <;> omega) | fail) only [wpy, fW, reduceLE, reduceLT, reduceLeDiff, UInt8.reduceToNat, ↓reduceIte, reduceEqDiff, reduceAdd, reduceCtorEq, reduceToNat, Try.f64]
    exact ⟨Ext.refl _, by subst c12; rfl⟩
  refine cond_no (p := t = 12) (by simp +contextual (disch := first | (simp only [fq]; done) | omega | (simp only [Knx]; omega) | (apply Nat.le_antisymm <;> simp only [Knx] <;> omega) | fail) only [wpy, fW, reduceLE, reduceLT, reduceLeDiff, UInt8.reduceToNat, ↓reduceIte, reduceEqDiff, reduceAdd, reduceCtorEq, reduceToNat]) c12 ?_
  simp +contextual (disch := first | (simp only [fq]; done) | omega | (simp only [Knx]; omega) | (apply Nat.le_antisymm <;> simp only [Knx] <;> omega) | fail) only [wpyr, fW, reduceLE, reduceLT, reduceLeDiff, UInt8.reduceToNat, ↓reduceIte, reduceEqDiff, reduceAdd, reduceCtorEq, reduceToNat, Try.f64]
  by_cases c23 : t = 23
  · refine cond_yes (p := t = 23) (by simp +contextual (disch := first | (simp only [fq]; done) | omega | (simp only [Knx]; omega) | (apply Nat.le_antisymm <;> simp only [Knx] <;> omega) | fail) only [wpy, fW, reduceLE, reduceLT, reduceLeDiff, UInt8.reduceToNat, ↓reduceIte, reduceEqDiff, reduceAdd, reduceCtorEq, reduceToNat]) c23 ?_
    simp +contextual (disch := first | (simp only [fq]; done) | omega | (simp only [Knx]; omega) | (apply Nat.le_antisymm <;> simp only [Knx] <;> omega) | fail) only [wpy, fW, reduceLE, reduceLT, reduceLeDiff, UInt8.reduceToNat, ↓reduceIte, reduceEqDiff, reduceAdd, reduceCtorEq, reduceToNat, Try.f64]
    exact ⟨Ext.refl _, by subst c23; rfl⟩
  refine cond_no (p := t = 23) (by simp +contextual (disch := first | (simp only [fq]; done) | omega | (simp only [Knx]; omega) | (apply Nat.le_antisymm <;> simp only [Knx] <;> omega) | fail) only [wpy, fW, reduceLE, reduceLT, reduceLeDiff, UInt8.reduceToNat, ↓reduceIte, reduceEqDiff, reduceAdd, reduceCtorEq, reduceToNat]) c23 ?_
  simp +contextual (disch := first | (simp only [fq]; done) | omega | (simp only [Knx]; omega) | (apply Nat.le_antisymm <;> simp only [Knx] <;> omega) | fail) only [wpyr, fW, reduceLE, reduceLT, reduceLeDiff, UInt8.reduceToNat, ↓reduceIte, reduceEqDiff, reduceAdd, reduceCtorEq, reduceToNat, Try.f64]
  by_cases c24 : t = 24
  · refine cond_yes (p := t = 24) (by simp +contextual (disch := first | (simp only [fq]; done) | omega | (simp only [Knx]; omega) | (apply Nat.le_antisymm <;> simp only [Knx] <;> omega) | fail) only [wpy, fW, reduceLE, reduceLT, reduceLeDiff, UInt8.reduceToNat, ↓reduceIte, reduceEqDiff, reduceAdd, reduceCtorEq, reduceToNat]) c24 ?_
    simp +contextual (disch := first | (simp only [fq]; done) | omega | (simp only [Knx]; omega) | (apply Nat.le_antisymm <;> simp only [Knx] <;> omega) | fail) only [wpy, fW, reduceLE, reduceLT, reduceLeDiff, UInt8.reduceToNat, ↓reduceIte, reduceEqDiff, reduceAdd, reduceCtorEq, reduceToNat, Try.f64]
    exact ⟨Ext.refl _, by subst c24; rfl⟩
  refine cond_no (p := t = 24) (by simp +contextual (disch := first | (simp only [fq]; done) | omega | (simp only [Knx]; omega) | (apply Nat.le_antisymm <;> simp only [Knx] <;> omega) | fail) only [wpy, fW, reduceLE, reduceLT, reduceLeDiff, UInt8.reduceToNat, ↓reduceIte, reduceEqDiff, reduceAdd, reduceCtorEq, reduceToNat]) c24 ?_
  simp +contextual (disch := first | (simp only [fq]; done) | omega | (simp only [Knx]; omega) | (apply Nat.le_antisymm <;> simp only [Knx] <;> omega) | fail) only [wpyr, fW, reduceLE, reduceLT, reduceLeDiff, UInt8.reduceToNat, ↓reduceIte, reduceEqDiff, reduceAdd, reduceCtorEq, reduceToNat, Try.f64]
  by_cases c25 : t = 25
  · refine cond_yes (p := t = 25) (by simp +contextual (disch := first | (simp only [fq]; done) | omega | (simp only [Knx]; omega) | (apply Nat.le_antisymm <;> simp only [Knx] <;> omega) | fail) only [wpy, fW, reduceLE, reduceLT, reduceLeDiff, UInt8.reduceToNat, ↓reduceIte, reduceEqDiff, reduceAdd, reduceCtorEq, reduceToNat]) c25 ?_
    simp +contextual (disch := first | (simp only [fq]; done) | omega | (simp only [Knx]; omega) | (apply Nat.le_antisymm <;> simp only [Knx] <;> omega) | fail) only [wpyr, fW, reduceLE, reduceLT, reduceLeDiff, UInt8.reduceToNat, ↓reduceIte, reduceEqDiff, reduceAdd, reduceCtorEq, reduceToNat, Try.f64]
    refine cond_yes (p := t = 25) (by simp +contextual (disch := first | (simp only [fq]; done) | omega | (simp only [Knx]; omega) | (apply Nat.le_antisymm <;> simp only [Knx] <;> omega) | fail) only [wpy, fW, reduceLE, reduceLT, reduceLeDiff, UInt8.reduceToNat, ↓reduceIte, reduceEqDiff, reduceAdd, reduceCtorEq, reduceToNat]) c25 ?_
    simp +contextual (disch := first | (simp only [fq]; done) | omega | (simp only [Knx]; omega) | (apply Nat.le_antisymm <;> simp only [Knx] <;> omega) | fail) only [wpy, fW, reduceLE, reduceLT, reduceLeDiff, UInt8.reduceToNat, ↓reduceIte, reduceEqDiff, reduceAdd, reduceCtorEq, reduceToNat, Try.f64]
    exact ⟨Ext.refl _, by subst c25; rfl⟩
  refine cond_no (p := t = 25) (by simp +contextual (disch := first | (simp only [fq]; done) | omega | (simp only [Knx]; omega) | (apply Nat.le_antisymm <;> simp only [Knx] <;> omega) | fail) only [wpy, fW, reduceLE, reduceLT, reduceLeDiff, UInt8.reduceToNat, ↓reduceIte, reduceEqDiff, reduceAdd, reduceCtorEq, reduceToNat]) c25 ?_
  simp +contextual (disch := first | (simp only [fq]; done) | omega | (simp only [Knx]; omega) | (apply Nat.le_antisymm <;> simp only [Knx] <;> omega) | fail) only [wpyr, fW, reduceLE, reduceLT, reduceLeDiff, UInt8.reduceToNat, ↓reduceIte, reduceEqDiff, reduceAdd, reduceCtorEq, reduceToNat, Try.f64]
  by_cases c26 : t = 26
  · refine cond_yes (p := t = 26) (by simp +contextual (disch := first | (simp only [fq]; done) | omega | (simp only [Knx]; omega) | (apply Nat.le_antisymm <;> simp only [Knx] <;> omega) | fail) only [wpy, fW, reduceLE, reduceLT, reduceLeDiff, UInt8.reduceToNat, ↓reduceIte, reduceEqDiff, reduceAdd, reduceCtorEq, reduceToNat]) c26 ?_
    simp +contextual (disch := first | (simp only [fq]; done) | omega | (simp only [Knx]; omega) | (apply Nat.le_antisymm <;> simp only [Knx] <;> omega) | fail) only [wpy, fW, reduceLE, reduceLT, reduceLeDiff, UInt8.reduceToNat, ↓reduceIte, reduceEqDiff, reduceAdd, reduceCtorEq, reduceToNat, Try.f64]
    exact ⟨Ext.refl _, by subst c26; rfl⟩
  refine cond_no (p := t = 26) (by simp +contextual (disch := first | (simp only [fq]; done) | omega | (simp only [Knx]; omega) | (apply Nat.le_antisymm <;> simp only [Knx] <;> omega) | fail) only [wpy, fW, reduceLE, reduceLT, reduceLeDiff, UInt8.reduceToNat, ↓reduceIte, reduceEqDiff, reduceAdd, reduceCtorEq, reduceToNat]) c26 ?_
  simp +contextual (disch := first | (simp only [fq]; done) | omega | (simp only [Knx]; omega) | (apply Nat.le_antisymm <;> simp only [Knx] <;> omega) | fail) only [wpyr, fW, reduceLE, reduceLT, reduceLeDiff, UInt8.reduceToNat, ↓reduceIte, reduceEqDiff, reduceAdd, reduceCtorEq, reduceToNat, Try.f64]
  by_cases c27 : t = 27
  · refine cond_yes (p := t = 27) (by simp +contextual (disch := first | (simp only [fq]; done) | omega | (simp only [Knx]; omega) | (apply Nat.le_antisymm <;> simp only [Knx] <;> omega) | fail) only [wpy, fW, reduceLE, reduceLT, reduceLeDiff, UInt8.reduceToNat, ↓reduceIte, reduceEqDiff, reduceAdd, reduceCtorEq, reduceToNat]) c27 ?_
    simp +contextual (disch := first | (simp only [fq]; done) | omega | (simp only [Knx]; omega) | (apply Nat.le_antisymm <;> simp only [Knx] <;> omega) | fail) only [wpy, fW, reduceLE, reduceLT, reduceLeDiff, UInt8.reduceToNat, ↓reduceIte, reduceEqDiff, reduceAdd, reduceCtorEq, reduceToNat, Try.f64]
    exact ⟨Ext.refl _, by subst c27; rfl⟩
  refine cond_no (p := t = 27) (by simp +contextual (disch := first | (simp only [fq]; done) | omega | (simp only [Knx]; omega) | (apply Nat.le_antisymm <;> simp only [Knx] <;> omega) | fail) only [wpy, fW, reduceLE, reduceLT, reduceLeDiff, UInt8.reduceToNat, ↓reduceIte, reduceEqDiff, reduceAdd, reduceCtorEq, reduceToNat]) c27 ?_
  simp +contextual (disch := first | (simp only [fq]; done) | omega | (simp only [Knx]; omega) | (apply Nat.le_antisymm <;> simp only [Knx] <;> omega) | fail) only [wpyr, fW, reduceLE, reduceLT, reduceLeDiff, UInt8.reduceToNat, ↓reduceIte, reduceEqDiff, reduceAdd, reduceCtorEq, reduceToNat, Try.f64]
  by_cases c28 : t = 28
  · refine cond_yes (p := t = 28) (by simp +contextual (disch := first | (simp only [fq]; done) | omega | (simp only [Knx]; omega) | (apply Nat.le_antisymm <;> simp only [Knx] <;> omega) | fail) only [wpy, fW, reduceLE, reduceLT, reduceLeDiff, UInt8.reduceToNat, ↓reduceIte, reduceEqDiff, reduceAdd, reduceCtorEq, reduceToNat]) c28 ?_
    simp +contextual (disch := first | (simp only [fq]; done) | omega | (simp only [Knx]; omega) | (apply Nat.le_antisymm <;> simp only [Knx] <;> omega) | fail) only [wpy, fW, reduceLE, reduceLT, reduceLeDiff, UInt8.reduceToNat, ↓reduceIte, reduceEqDiff, reduceAdd, reduceCtorEq, reduceToNat, Try.f64]
    exact ⟨Ext.refl _, by subst c28; rfl⟩
  refine cond_no (p := t = 28) (by simp +contextual (disch := first | (simp only [fq]; done) | omega | (simp only [Knx]; omega) | (apply Nat.le_antisymm <;> simp only [Knx] <;> omega) | fail) only [wpy, fW, reduceLE, reduceLT, reduceLeDiff, UInt8.reduceToNat, ↓reduceIte, reduceEqDiff, reduceAdd, reduceCtorEq, reduceToNat]) c28 ?_
  simp +contextual (disch := first | (simp only [fq]; done) | omega | (simp only [Knx]; omega) | (apply Nat.le_antisymm <;> simp only [Knx] <;> omega) | fail) only [wpyr, fW, reduceLE, reduceLT, reduceLeDiff, UInt8.reduceToNat, ↓reduceIte, reduceEqDiff, reduceAdd, reduceCtorEq, reduceToNat, Try.f64]
  exact ⟨Ext.refl _, by unfold shapeF; rw [if_neg (by omega), if_neg (by omega), if_neg (by omega), if_neg (by omega), if_neg (by omega), if_neg (by omega), if_neg (by omega), if_neg (by omega)]⟩
theorem answer_spec (t : Int) (h : H) : Pure S.cfg 27 [.int .u8 t] h fun v _ => v = .int .i64 (answerF t) := by
  refine into Try.f27 _ Try.func27 (hS.ownR _ (by decide)) rfl rfl (by kernel_rfl) (by kernel_rfl) ?_
  simp +contextual (disch := first | (simp only [fq]; done) | omega | (simp only [Knx]; omega) | (apply Nat.le_antisymm <;> simp only [Knx] <;> omega) | fail) only [wpyr, fW, reduceLE, reduceLT, reduceLeDiff, UInt8.reduceToNat, ↓reduceIte, reduceEqDiff, reduceAdd, reduceCtorEq, reduceToNat, Try.f27]
  by_cases c1 : t = 1
  · refine cond_yes (p := t = 1) (by simp +contextual (disch := first | (simp only [fq]; done) | omega | (simp only [Knx]; omega) | (apply Nat.le_antisymm <;> simp only [Knx] <;> omega) | fail) only [wpy, fW, reduceLE, reduceLT, reduceLeDiff, UInt8.reduceToNat, ↓reduceIte, reduceEqDiff, reduceAdd, reduceCtorEq, reduceToNat]) c1 ?_
    simp +contextual (disch := first | (simp only [fq]; done) | omega | (simp only [Knx]; omega) | (apply Nat.le_antisymm <;> simp only [Knx] <;> omega) | fail) only [wpyr, fW, reduceLE, reduceLT, reduceLeDiff, UInt8.reduceToNat, ↓reduceIte, reduceEqDiff, reduceAdd, reduceCtorEq, reduceToNat, Try.f27]
    refine cond_yes (p := t = 1) (by simp +contextual (disch := first | (simp only [fq]; done) | omega | (simp only [Knx]; omega) | (apply Nat.le_antisymm <;> simp only [Knx] <;> omega) | fail) only [wpy, fW, reduceLE, reduceLT, reduceLeDiff, UInt8.reduceToNat, ↓reduceIte, reduceEqDiff, reduceAdd, reduceCtorEq, reduceToNat]) c1 ?_
    simp +contextual (disch := first | (simp only [fq]; done) | omega | (simp only [Knx]; omega) | (apply Nat.le_antisymm <;> simp only [Knx] <;> omega) | fail) only [wpy, fW, reduceLE, reduceLT, reduceLeDiff, UInt8.reduceToNat, ↓reduceIte, reduceEqDiff, reduceAdd, reduceCtorEq, reduceToNat, Try.f27]
    exact ⟨Ext.refl _, by subst c1; rfl⟩
  refine cond_no (p := t = 1) (by simp +contextual (disch := first | (simp only [fq]; done) | omega | (simp only [Knx]; omega) | (apply Nat.le_antisymm <;> simp only [Knx] <;> omega) | fail) only [wpy, fW, reduceLE, reduceLT, reduceLeDiff, UInt8.reduceToNat, ↓reduceIte, reduceEqDiff, reduceAdd, reduceCtorEq, reduceToNat]) c1 ?_
  simp +contextual (disch := first | (simp only [fq]; done) | omega | (simp only [Knx]; omega) | (apply Nat.le_antisymm <;> simp only [Knx] <;> omega) | fail) only [wpyr, fW, reduceLE, reduceLT, reduceLeDiff, UInt8.reduceToNat, ↓reduceIte, reduceEqDiff, reduceAdd, reduceCtorEq, reduceToNat, Try.f27]
  by_cases c24 : t = 24
  · refine cond_yes (p := t = 24) (by simp +contextual (disch := first | (simp only [fq]; done) | omega | (simp only [Knx]; omega) | (apply Nat.le_antisymm <;> simp only [Knx] <;> omega) | fail) only [wpy, fW, reduceLE, reduceLT, reduceLeDiff, UInt8.reduceToNat, ↓reduceIte, reduceEqDiff, reduceAdd, reduceCtorEq, reduceToNat]) c24 ?_
    simp +contextual (disch := first | (simp only [fq]; done) | omega | (simp only [Knx]; omega) | (apply Nat.le_antisymm <;> simp only [Knx] <;> omega) | fail) only [wpyr, fW, reduceLE, reduceLT, reduceLeDiff, UInt8.reduceToNat, ↓reduceIte, reduceEqDiff, reduceAdd, reduceCtorEq, reduceToNat, Try.f27]
    refine cond_yes (p := t = 24) (by simp +contextual (disch := first | (simp only [fq]; done) | omega | (simp only [Knx]; omega) | (apply Nat.le_antisymm <;> simp only [Knx] <;> omega) | fail) only [wpy, fW, reduceLE, reduceLT, reduceLeDiff, UInt8.reduceToNat, ↓reduceIte, reduceEqDiff, reduceAdd, reduceCtorEq, reduceToNat]) c24 ?_
    simp +contextual (disch := first | (simp only [fq]; done) | omega | (simp only [Knx]; omega) | (apply Nat.le_antisymm <;> simp only [Knx] <;> omega) | fail) only [wpy, fW, reduceLE, reduceLT, reduceLeDiff, UInt8.reduceToNat, ↓reduceIte, reduceEqDiff, reduceAdd, reduceCtorEq, reduceToNat, Try.f27]
    exact ⟨Ext.refl _, by subst c24; rfl⟩
  refine cond_no (p := t = 24) (by simp +contextual (disch := first | (simp only [fq]; done) | omega | (simp only [Knx]; omega) | (apply Nat.le_antisymm <;> simp only [Knx] <;> omega) | fail) only [wpy, fW, reduceLE, reduceLT, reduceLeDiff, UInt8.reduceToNat, ↓reduceIte, reduceEqDiff, reduceAdd, reduceCtorEq, reduceToNat]) c24 ?_
  simp +contextual (disch := first | (simp only [fq]; done) | omega | (simp only [Knx]; omega) | (apply Nat.le_antisymm <;> simp only [Knx] <;> omega) | fail) only [wpyr, fW, reduceLE, reduceLT, reduceLeDiff, UInt8.reduceToNat, ↓reduceIte, reduceEqDiff, reduceAdd, reduceCtorEq, reduceToNat, Try.f27]
  by_cases c25 : t = 25
  · refine cond_yes (p := t = 25) (by simp +contextual (disch := first | (simp only [fq]; done) | omega | (simp only [Knx]; omega) | (apply Nat.le_antisymm <;> simp only [Knx] <;> omega) | fail) only [wpy, fW, reduceLE, reduceLT, reduceLeDiff, UInt8.reduceToNat, ↓reduceIte, reduceEqDiff, reduceAdd, reduceCtorEq, reduceToNat]) c25 ?_
    simp +contextual (disch := first | (simp only [fq]; done) | omega | (simp only [Knx]; omega) | (apply Nat.le_antisymm <;> simp only [Knx] <;> omega) | fail) only [wpy, fW, reduceLE, reduceLT, reduceLeDiff, UInt8.reduceToNat, ↓reduceIte, reduceEqDiff, reduceAdd, reduceCtorEq, reduceToNat, Try.f27]
    exact ⟨Ext.refl _, by subst c25; rfl⟩
  refine cond_no (p := t = 25) (by simp +contextual (disch := first | (simp only [fq]; done) | omega | (simp only [Knx]; omega) | (apply Nat.le_antisymm <;> simp only [Knx] <;> omega) | fail) only [wpy, fW, reduceLE, reduceLT, reduceLeDiff, UInt8.reduceToNat, ↓reduceIte, reduceEqDiff, reduceAdd, reduceCtorEq, reduceToNat]) c25 ?_
  simp +contextual (disch := first | (simp only [fq]; done) | omega | (simp only [Knx]; omega) | (apply Nat.le_antisymm <;> simp only [Knx] <;> omega) | fail) only [wpyr, fW, reduceLE, reduceLT, reduceLeDiff, UInt8.reduceToNat, ↓reduceIte, reduceEqDiff, reduceAdd, reduceCtorEq, reduceToNat, Try.f27]
  by_cases c2 : t = 2
  · refine cond_yes (p := t = 2) (by simp +contextual (disch := first | (simp only [fq]; done) | omega | (simp only [Knx]; omega) | (apply Nat.le_antisymm <;> simp only [Knx] <;> omega) | fail) only [wpy, fW, reduceLE, reduceLT, reduceLeDiff, UInt8.reduceToNat, ↓reduceIte, reduceEqDiff, reduceAdd, reduceCtorEq, reduceToNat]) c2 ?_
    simp +contextual (disch := first | (simp only [fq]; done) | omega | (simp only [Knx]; omega) | (apply Nat.le_antisymm <;> simp only [Knx] <;> omega) | fail) only [wpyr, fW, reduceLE, reduceLT, reduceLeDiff, UInt8.reduceToNat, ↓reduceIte, reduceEqDiff, reduceAdd, reduceCtorEq, reduceToNat, Try.f27]
    refine cond_yes (p := t = 2) (by simp +contextual (disch := first | (simp only [fq]; done) | omega | (simp only [Knx]; omega) | (apply Nat.le_antisymm <;> simp only [Knx] <;> omega) | fail) only [wpy, fW, reduceLE, reduceLT, reduceLeDiff, UInt8.reduceToNat, ↓reduceIte, reduceEqDiff, reduceAdd, reduceCtorEq, reduceToNat]) c2 ?_
    simp +contextual (disch := first | (simp only [fq]; done) | omega | (simp only [Knx]; omega) | (apply Nat.le_antisymm <;> simp only [Knx] <;> omega) | fail) only [wpy, fW, reduceLE, reduceLT, reduceLeDiff, UInt8.reduceToNat, ↓reduceIte, reduceEqDiff, reduceAdd, reduceCtorEq, reduceToNat, Try.f27]
    exact ⟨Ext.refl _, by subst c2; rfl⟩
  refine cond_no (p := t = 2) (by simp +contextual (disch := first | (simp only [fq]; done) | omega | (simp only [Knx]; omega) | (apply Nat.le_antisymm <;> simp only [Knx] <;> omega) | fail) only [wpy, fW, reduceLE, reduceLT, reduceLeDiff, UInt8.reduceToNat, ↓reduceIte, reduceEqDiff, reduceAdd, reduceCtorEq, reduceToNat]) c2 ?_
  simp +contextual (disch := first | (simp only [fq]; done) | omega | (simp only [Knx]; omega) | (apply Nat.le_antisymm <;> simp only [Knx] <;> omega) | fail) only [wpyr, fW, reduceLE, reduceLT, reduceLeDiff, UInt8.reduceToNat, ↓reduceIte, reduceEqDiff, reduceAdd, reduceCtorEq, reduceToNat, Try.f27]
  by_cases c14 : t = 14
  · refine cond_yes (p := t = 14) (by simp +contextual (disch := first | (simp only [fq]; done) | omega | (simp only [Knx]; omega) | (apply Nat.le_antisymm <;> simp only [Knx] <;> omega) | fail) only [wpy, fW, reduceLE, reduceLT, reduceLeDiff, UInt8.reduceToNat, ↓reduceIte, reduceEqDiff, reduceAdd, reduceCtorEq, reduceToNat]) c14 ?_
    simp +contextual (disch := first | (simp only [fq]; done) | omega | (simp only [Knx]; omega) | (apply Nat.le_antisymm <;> simp only [Knx] <;> omega) | fail) only [wpyr, fW, reduceLE, reduceLT, reduceLeDiff, UInt8.reduceToNat, ↓reduceIte, reduceEqDiff, reduceAdd, reduceCtorEq, reduceToNat, Try.f27]
    refine cond_yes (p := t = 14) (by simp +contextual (disch := first | (simp only [fq]; done) | omega | (simp only [Knx]; omega) | (apply Nat.le_antisymm <;> simp only [Knx] <;> omega) | fail) only [wpy, fW, reduceLE, reduceLT, reduceLeDiff, UInt8.reduceToNat, ↓reduceIte, reduceEqDiff, reduceAdd, reduceCtorEq, reduceToNat]) c14 ?_
    simp +contextual (disch := first | (simp only [fq]; done) | omega | (simp only [Knx]; omega) | (apply Nat.le_antisymm <;> simp only [Knx] <;> omega) | fail) only [wpy, fW, reduceLE, reduceLT, reduceLeDiff, UInt8.reduceToNat, ↓reduceIte, reduceEqDiff, reduceAdd, reduceCtorEq, reduceToNat, Try.f27]
    exact ⟨Ext.refl _, by subst c14; rfl⟩
  refine cond_no (p := t = 14) (by simp +contextual (disch := first | (simp only [fq]; done) | omega | (simp only [Knx]; omega) | (apply Nat.le_antisymm <;> simp only [Knx] <;> omega) | fail) only [wpy, fW, reduceLE, reduceLT, reduceLeDiff, UInt8.reduceToNat, ↓reduceIte, reduceEqDiff, reduceAdd, reduceCtorEq, reduceToNat]) c14 ?_
  simp +contextual (disch := first | (simp only [fq]; done) | omega | (simp only [Knx]; omega) | (apply Nat.le_antisymm <;> simp only [Knx] <;> omega) | fail) only [wpyr, fW, reduceLE, reduceLT, reduceLeDiff, UInt8.reduceToNat, ↓reduceIte, reduceEqDiff, reduceAdd, reduceCtorEq, reduceToNat, Try.f27]
  by_cases c26 : t = 26
  · refine cond_yes (p := t = 26) (by simp +contextual (disch := first | (simp only [fq]; done) | omega | (simp only [Knx]; omega) | (apply Nat.le_antisymm <;> simp only [Knx] <;> omega) | fail) only [wpy, fW, reduceLE, reduceLT, reduceLeDiff, UInt8.reduceToNat, ↓reduceIte, reduceEqDiff, reduceAdd, reduceCtorEq, reduceToNat]) c26 ?_
    simp +contextual (disch := first | (simp only [fq]; done) | omega | (simp only [Knx]; omega) | (apply Nat.le_antisymm <;> simp only [Knx] <;> omega) | fail) only [wpyr, fW, reduceLE, reduceLT, reduceLeDiff, UInt8.reduceToNat, ↓reduceIte, reduceEqDiff, reduceAdd, reduceCtorEq, reduceToNat, Try.f27]
    refine cond_yes (p := t = 26) (by simp +contextual (disch := first | (simp only [fq]; done) | omega | (simp only [Knx]; omega) | (apply Nat.le_antisymm <;> simp only [Knx] <;> omega) | fail) only [wpy, fW, reduceLE, reduceLT, reduceLeDiff, UInt8.reduceToNat, ↓reduceIte, reduceEqDiff, reduceAdd, reduceCtorEq, reduceToNat]) c26 ?_
    simp +contextual (disch := first | (simp only [fq]; done) | omega | (simp only [Knx]; omega) | (apply Nat.le_antisymm <;> simp only [Knx] <;> omega) | fail) only [wpy, fW, reduceLE, reduceLT, reduceLeDiff, UInt8.reduceToNat, ↓reduceIte, reduceEqDiff, reduceAdd, reduceCtorEq, reduceToNat, Try.f27]
    exact ⟨Ext.refl _, by subst c26; rfl⟩
  refine cond_no (p := t = 26) (by simp +contextual (disch := first | (simp only [fq]; done) | omega | (simp only [Knx]; omega) | (apply Nat.le_antisymm <;> simp only [Knx] <;> omega) | fail) only [wpy, fW, reduceLE, reduceLT, reduceLeDiff, UInt8.reduceToNat, ↓reduceIte, reduceEqDiff, reduceAdd, reduceCtorEq, reduceToNat]) c26 ?_
  simp +contextual (disch := first | (simp only [fq]; done) | omega | (simp only [Knx]; omega) | (apply Nat.le_antisymm <;> simp only [Knx] <;> omega) | fail) only [wpyr, fW, reduceLE, reduceLT, reduceLeDiff, UInt8.reduceToNat, ↓reduceIte, reduceEqDiff, reduceAdd, reduceCtorEq, reduceToNat, Try.f27]
  by_cases c31 : t = 31
  · refine cond_yes (p := t = 31) (by simp +contextual (disch := first | (simp only [fq]; done) | omega | (simp only [Knx]; omega) | (apply Nat.le_antisymm <;> simp only [Knx] <;> omega) | fail) only [wpy, fW, reduceLE, reduceLT, reduceLeDiff, UInt8.reduceToNat, ↓reduceIte, reduceEqDiff, reduceAdd, reduceCtorEq, reduceToNat]) c31 ?_
    simp +contextual (disch := first | (simp only [fq]; done) | omega | (simp only [Knx]; omega) | (apply Nat.le_antisymm <;> simp only [Knx] <;> omega) | fail) only [wpyr, fW, reduceLE, reduceLT, reduceLeDiff, UInt8.reduceToNat, ↓reduceIte, reduceEqDiff, reduceAdd, reduceCtorEq, reduceToNat, Try.f27]
    refine cond_yes (p := t = 31) (by simp +contextual (disch := first | (simp only [fq]; done) | omega | (simp only [Knx]; omega) | (apply Nat.le_antisymm <;> simp only [Knx] <;> omega) | fail) only [wpy, fW, reduceLE, reduceLT, reduceLeDiff, UInt8.reduceToNat, ↓reduceIte, reduceEqDiff, reduceAdd, reduceCtorEq, reduceToNat]) c31 ?_
    simp +contextual (disch := first | (simp only [fq]; done) | omega | (simp only [Knx]; omega) | (apply Nat.le_antisymm <;> simp only [Knx] <;> omega) | fail) only [wpy, fW, reduceLE, reduceLT, reduceLeDiff, UInt8.reduceToNat, ↓reduceIte, reduceEqDiff, reduceAdd, reduceCtorEq, reduceToNat, Try.f27]
    exact ⟨Ext.refl _, by subst c31; rfl⟩
  refine cond_no (p := t = 31) (by simp +contextual (disch := first | (simp only [fq]; done) | omega | (simp only [Knx]; omega) | (apply Nat.le_antisymm <;> simp only [Knx] <;> omega) | fail) only [wpy, fW, reduceLE, reduceLT, reduceLeDiff, UInt8.reduceToNat, ↓reduceIte, reduceEqDiff, reduceAdd, reduceCtorEq, reduceToNat]) c31 ?_
  simp +contextual (disch := first | (simp only [fq]; done) | omega | (simp only [Knx]; omega) | (apply Nat.le_antisymm <;> simp only [Knx] <;> omega) | fail) only [wpyr, fW, reduceLE, reduceLT, reduceLeDiff, UInt8.reduceToNat, ↓reduceIte, reduceEqDiff, reduceAdd, reduceCtorEq, reduceToNat, Try.f27]
  by_cases c12 : t = 12
  · refine cond_yes (p := t = 12) (by simp +contextual (disch := first | (simp only [fq]; done) | omega | (simp only [Knx]; omega) | (apply Nat.le_antisymm <;> simp only [Knx] <;> omega) | fail) only [wpy, fW, reduceLE, reduceLT, reduceLeDiff, UInt8.reduceToNat, ↓reduceIte, reduceEqDiff, reduceAdd, reduceCtorEq, reduceToNat]) c12 ?_
    simp +contextual (disch := first | (simp only [fq]; done) | omega | (simp only [Knx]; omega) | (apply Nat.le_antisymm <;> simp only [Knx] <;> omega) | fail) only [wpy, fW, reduceLE, reduceLT, reduceLeDiff, UInt8.reduceToNat, ↓reduceIte, reduceEqDiff, reduceAdd, reduceCtorEq, reduceToNat, Try.f27]
    exact ⟨Ext.refl _, by subst c12; rfl⟩
  refine cond_no (p := t = 12) (by simp +contextual (disch := first | (simp only [fq]; done) | omega | (simp only [Knx]; omega) | (apply Nat.le_antisymm <;> simp only [Knx] <;> omega) | fail) only [wpy, fW, reduceLE, reduceLT, reduceLeDiff, UInt8.reduceToNat, ↓reduceIte, reduceEqDiff, reduceAdd, reduceCtorEq, reduceToNat]) c12 ?_
  simp +contextual (disch := first | (simp only [fq]; done) | omega | (simp only [Knx]; omega) | (apply Nat.le_antisymm <;> simp only [Knx] <;> omega) | fail) only [wpyr, fW, reduceLE, reduceLT, reduceLeDiff, UInt8.reduceToNat, ↓reduceIte, reduceEqDiff, reduceAdd, reduceCtorEq, reduceToNat, Try.f27]
  by_cases c27 : t = 27
  · refine cond_yes (p := t = 27) (by simp +contextual (disch := first | (simp only [fq]; done) | omega | (simp only [Knx]; omega) | (apply Nat.le_antisymm <;> simp only [Knx] <;> omega) | fail) only [wpy, fW, reduceLE, reduceLT, reduceLeDiff, UInt8.reduceToNat, ↓reduceIte, reduceEqDiff, reduceAdd, reduceCtorEq, reduceToNat]) c27 ?_
    simp +contextual (disch := first | (simp only [fq]; done) | omega | (simp only [Knx]; omega) | (apply Nat.le_antisymm <;> simp only [Knx] <;> omega) | fail) only [wpy, fW, reduceLE, reduceLT, reduceLeDiff, UInt8.reduceToNat, ↓reduceIte, reduceEqDiff, reduceAdd, reduceCtorEq, reduceToNat, Try.f27]
    exact ⟨Ext.refl _, by subst c27; rfl⟩
  refine cond_no (p := t = 27) (by simp +contextual (disch := first | (simp only [fq]; done) | omega | (simp only [Knx]; omega) | (apply Nat.le_antisymm <;> simp only [Knx] <;> omega) | fail) only [wpy, fW, reduceLE, reduceLT, reduceLeDiff, UInt8.reduceToNat, ↓reduceIte, reduceEqDiff, reduceAdd, reduceCtorEq, reduceToNat]) c27 ?_
  simp +contextual (disch := first | (simp only [fq]; done) | omega | (simp only [Knx]; omega) | (apply Nat.le_antisymm <;> simp only [Knx] <;> omega) | fail) only [wpyr, fW, reduceLE, reduceLT, reduceLeDiff, UInt8.reduceToNat, ↓reduceIte, reduceEqDiff, reduceAdd, reduceCtorEq, reduceToNat, Try.f27]
  by_cases c9 : t = 9
  · refine cond_yes (p := t = 9) (by simp +contextual (disch := first | (simp only [fq]; done) | omega | (simp only [Knx]; omega) | (apply Nat.le_antisymm <;> simp only [Knx] <;> omega) | fail) only [wpy, fW, reduceLE, reduceLT, reduceLeDiff, UInt8.reduceToNat, ↓reduceIte, reduceEqDiff, reduceAdd, reduceCtorEq, reduceToNat]) c9 ?_
    simp +contextual (disch := first | (simp only [fq]; done) | omega | (simp only [Knx]; omega) | (apply Nat.le_antisymm <;> simp only [Knx] <;> omega) | fail) only [wpy, fW, reduceLE, reduceLT, reduceLeDiff, UInt8.reduceToNat, ↓reduceIte, reduceEqDiff, reduceAdd, reduceCtorEq, reduceToNat, Try.f27]
    exact ⟨Ext.refl _, by subst c9; rfl⟩
  refine cond_no (p := t = 9) (by simp +contextual (disch := first | (simp only [fq]; done) | omega | (simp only [Knx]; omega) | (apply Nat.le_antisymm <;> simp only [Knx] <;> omega) | fail) only [wpy, fW, reduceLE, reduceLT, reduceLeDiff, UInt8.reduceToNat, ↓reduceIte, reduceEqDiff, reduceAdd, reduceCtorEq, reduceToNat]) c9 ?_
  simp +contextual (disch := first | (simp only [fq]; done) | omega | (simp only [Knx]; omega) | (apply Nat.le_antisymm <;> simp only [Knx] <;> omega) | fail) only [wpyr, fW, reduceLE, reduceLT, reduceLeDiff, UInt8.reduceToNat, ↓reduceIte, reduceEqDiff, reduceAdd, reduceCtorEq, reduceToNat, Try.f27]
  by_cases c3 : t = 3
  · refine cond_yes (p := t = 3) (by simp +contextual (disch := first | (simp only [fq]; done) | omega | (simp only [Knx]; omega) | (apply Nat.le_antisymm <;> simp only [Knx] <;> omega) | fail) only [wpy, fW, reduceLE, reduceLT, reduceLeDiff, UInt8.reduceToNat, ↓reduceIte, reduceEqDiff, reduceAdd, reduceCtorEq, reduceToNat]) c3 ?_
    simp +contextual (disch := first | (simp only [fq]; done) | omega | (simp only [Knx]; omega) | (apply Nat.le_antisymm <;> simp only [Knx] <;> omega) | fail) only [wpyr, fW, reduceLE, reduceLT, reduceLeDiff, UInt8.reduceToNat, ↓reduceIte, reduceEqDiff, reduceAdd, reduceCtorEq, reduceToNat, Try.f27]
    refine cond_yes (p := t = 3) (by simp +contextual (disch := first | (simp only [fq]; done) | omega | (simp only [Knx]; omega) | (apply Nat.le_antisymm <;> simp only [Knx] <;> omega) | fail) only [wpy, fW, reduceLE, reduceLT, reduceLeDiff, UInt8.reduceToNat, ↓reduceIte, reduceEqDiff, reduceAdd, reduceCtorEq, reduceToNat]) c3 ?_
    simp +contextual (disch := first | (simp only [fq]; done) | omega | (simp only [Knx]; omega) | (apply Nat.le_antisymm <;> simp only [Knx] <;> omega) | fail) only [wpy, fW, reduceLE, reduceLT, reduceLeDiff, UInt8.reduceToNat, ↓reduceIte, reduceEqDiff, reduceAdd, reduceCtorEq, reduceToNat, Try.f27]
    exact ⟨Ext.refl _, by subst c3; rfl⟩
  refine cond_no (p := t = 3) (by simp +contextual (disch := first | (simp only [fq]; done) | omega | (simp only [Knx]; omega) | (apply Nat.le_antisymm <;> simp only [Knx] <;> omega) | fail) only [wpy, fW, reduceLE, reduceLT, reduceLeDiff, UInt8.reduceToNat, ↓reduceIte, reduceEqDiff, reduceAdd, reduceCtorEq, reduceToNat]) c3 ?_
  simp +contextual (disch := first | (simp only [fq]; done) | omega | (simp only [Knx]; omega) | (apply Nat.le_antisymm <;> simp only [Knx] <;> omega) | fail) only [wpyr, fW, reduceLE, reduceLT, reduceLeDiff, UInt8.reduceToNat, ↓reduceIte, reduceEqDiff, reduceAdd, reduceCtorEq, reduceToNat, Try.f27]
  by_cases c23 : t = 23
  · refine cond_yes (p := t = 23) (by simp +contextual (disch := first | (simp only [fq]; done) | omega | (simp only [Knx]; omega) | (apply Nat.le_antisymm <;> simp only [Knx] <;> omega) | fail) only [wpy, fW, reduceLE, reduceLT, reduceLeDiff, UInt8.reduceToNat, ↓reduceIte, reduceEqDiff, reduceAdd, reduceCtorEq, reduceToNat]) c23 ?_
    simp +contextual (disch := first | (simp only [fq]; done) | omega | (simp only [Knx]; omega) | (apply Nat.le_antisymm <;> simp only [Knx] <;> omega) | fail) only [wpy, fW, reduceLE, reduceLT, reduceLeDiff, UInt8.reduceToNat, ↓reduceIte, reduceEqDiff, reduceAdd, reduceCtorEq, reduceToNat, Try.f27]
    exact ⟨Ext.refl _, by subst c23; rfl⟩
  refine cond_no (p := t = 23) (by simp +contextual (disch := first | (simp only [fq]; done) | omega | (simp only [Knx]; omega) | (apply Nat.le_antisymm <;> simp only [Knx] <;> omega) | fail) only [wpy, fW, reduceLE, reduceLT, reduceLeDiff, UInt8.reduceToNat, ↓reduceIte, reduceEqDiff, reduceAdd, reduceCtorEq, reduceToNat]) c23 ?_
  simp +contextual (disch := first | (simp only [fq]; done) | omega | (simp only [Knx]; omega) | (apply Nat.le_antisymm <;> simp only [Knx] <;> omega) | fail) only [wpyr, fW, reduceLE, reduceLT, reduceLeDiff, UInt8.reduceToNat, ↓reduceIte, reduceEqDiff, reduceAdd, reduceCtorEq, reduceToNat, Try.f27]
  by_cases c22 : t = 22
  · refine cond_yes (p := t = 22) (by simp +contextual (disch := first | (simp only [fq]; done) | omega | (simp only [Knx]; omega) | (apply Nat.le_antisymm <;> simp only [Knx] <;> omega) | fail) only [wpy, fW, reduceLE, reduceLT, reduceLeDiff, UInt8.reduceToNat, ↓reduceIte, reduceEqDiff, reduceAdd, reduceCtorEq, reduceToNat]) c22 ?_
    simp +contextual (disch := first | (simp only [fq]; done) | omega | (simp only [Knx]; omega) | (apply Nat.le_antisymm <;> simp only [Knx] <;> omega) | fail) only [wpy, fW, reduceLE, reduceLT, reduceLeDiff, UInt8.reduceToNat, ↓reduceIte, reduceEqDiff, reduceAdd, reduceCtorEq, reduceToNat, Try.f27]
    exact ⟨Ext.refl _, by subst c22; rfl⟩
  refine cond_no (p := t = 22) (by simp +contextual (disch := first | (simp only [fq]; done) | omega | (simp only [Knx]; omega) | (apply Nat.le_antisymm <;> simp only [Knx] <;> omega) | fail) only [wpy, fW, reduceLE, reduceLT, reduceLeDiff, UInt8.reduceToNat, ↓reduceIte, reduceEqDiff, reduceAdd, reduceCtorEq, reduceToNat]) c22 ?_
  simp +contextual (disch := first | (simp only [fq]; done) | omega | (simp only [Knx]; omega) | (apply Nat.le_antisymm <;> simp only [Knx] <;> omega) | fail) only [wpyr, fW, reduceLE, reduceLT, reduceLeDiff, UInt8.reduceToNat, ↓reduceIte, reduceEqDiff, reduceAdd, reduceCtorEq, reduceToNat, Try.f27]
  by_cases c28 : t = 28
  · refine cond_yes (p := t = 28) (by simp +contextual (disch := first | (simp only [fq]; done) | omega | (simp only [Knx]; omega) | (apply Nat.le_antisymm <;> simp only [Knx] <;> omega) | fail) only [wpy, fW, reduceLE, reduceLT, reduceLeDiff, UInt8.reduceToNat, ↓reduceIte, reduceEqDiff, reduceAdd, reduceCtorEq, reduceToNat]) c28 ?_
    simp +contextual (disch := first | (simp only [fq]; done) | omega | (simp only [Knx]; omega) | (apply Nat.le_antisymm <;> simp only [Knx] <;> omega) | fail) only [wpy, fW, reduceLE, reduceLT, reduceLeDiff, UInt8.reduceToNat, ↓reduceIte, reduceEqDiff, reduceAdd, reduceCtorEq, reduceToNat, Try.f27]
    exact ⟨Ext.refl _, by subst c28; rfl⟩
  refine cond_no (p := t = 28) (by simp +contextual (disch := first | (simp only [fq]; done) | omega | (simp only [Knx]; omega) | (apply Nat.le_antisymm <;> simp only [Knx] <;> omega) | fail) only [wpy, fW, reduceLE, reduceLT, reduceLeDiff, UInt8.reduceToNat, ↓reduceIte, reduceEqDiff, reduceAdd, reduceCtorEq, reduceToNat]) c28 ?_
  simp +contextual (disch := first | (simp only [fq]; done) | omega | (simp only [Knx]; omega) | (apply Nat.le_antisymm <;> simp only [Knx] <;> omega) | fail) only [wpyr, fW, reduceLE, reduceLT, reduceLeDiff, UInt8.reduceToNat, ↓reduceIte, reduceEqDiff, reduceAdd, reduceCtorEq, reduceToNat, Try.f27]
  by_cases c17 : t = 17
  · refine cond_yes (p := t = 17) (by simp +contextual (disch := first | (simp only [fq]; done) | omega | (simp only [Knx]; omega) | (apply Nat.le_antisymm <;> simp only [Knx] <;> omega) | fail) only [wpy, fW, reduceLE, reduceLT, reduceLeDiff, UInt8.reduceToNat, ↓reduceIte, reduceEqDiff, reduceAdd, reduceCtorEq, reduceToNat]) c17 ?_
    simp +contextual (disch := first | (simp only [fq]; done) | omega | (simp only [Knx]; omega) | (apply Nat.le_antisymm <;> simp only [Knx] <;> omega) | fail) only [wpy, fW, reduceLE, reduceLT, reduceLeDiff, UInt8.reduceToNat, ↓reduceIte, reduceEqDiff, reduceAdd, reduceCtorEq, reduceToNat, Try.f27]
    exact ⟨Ext.refl _, by subst c17; rfl⟩
  refine cond_no (p := t = 17) (by simp +contextual (disch := first | (simp only [fq]; done) | omega | (simp only [Knx]; omega) | (apply Nat.le_antisymm <;> simp only [Knx] <;> omega) | fail) only [wpy, fW, reduceLE, reduceLT, reduceLeDiff, UInt8.reduceToNat, ↓reduceIte, reduceEqDiff, reduceAdd, reduceCtorEq, reduceToNat]) c17 ?_
  simp +contextual (disch := first | (simp only [fq]; done) | omega | (simp only [Knx]; omega) | (apply Nat.le_antisymm <;> simp only [Knx] <;> omega) | fail) only [wpyr, fW, reduceLE, reduceLT, reduceLeDiff, UInt8.reduceToNat, ↓reduceIte, reduceEqDiff, reduceAdd, reduceCtorEq, reduceToNat, Try.f27]
  exact ⟨Ext.refl _, by unfold answerF; rw [if_neg (by omega), if_neg (by omega), if_neg (by omega), if_neg (by omega), if_neg (by omega), if_neg (by omega), if_neg (by omega), if_neg (by omega)]⟩
end
noncomputable section
def cmdOk (X : RX) (k fl : Int) (n : Nat) : Prop := (shapeF k = 1 ∨ X.x1 = []) ∧ (shapeF k = 3 ∨ shapeF k = 4 ∨ shapeF k = 5 ∨ shapeF k = 7 ∨ X.x2 = 0) ∧ (shapeF k = 4 ∨ X.x3 = 0) ∧ (shapeF k = 3 ∨ fl = 0) ∧ (shapeF k = 2 ∨ shapeF k = 7 ∨ X.x5 = 0) ∧ (shapeF k = 6 ∨ X.x6 = 0) ∧ (shapeF k = 3 ∨ shapeF k = 4 ∨ shapeF k = 8 ∨ n = 0) ∧ fl ≤ 1
def bareX (X : RX) (k fl : Int) : List V := [.int .u8 k, .str (if shapeF k = 1 then X.x1 else []), .int .u32 (if shapeF k = 3 ∨ shapeF k = 4 ∨ shapeF k = 5 ∨ shapeF k = 7 then X.x2 else 0), .int .u16 (if shapeF k = 4 then X.x3 else 0), .int .u8 (if shapeF k = 3 then fl else 0), .int .u32 (if shapeF k = 2 ∨ shapeF k = 7 then X.x5 else 0), .int .u16 (if shapeF k = 6 then X.x6 else 0), if shapeF k = 3 ∨ shapeF k = 4 ∨ shapeF k = 8 then X.x7 else .nilslice]
def cmdC (X : RX) (k fl : Int) : List V := [.int .u8 k, .str X.x1, .int .u32 X.x2, .int .u16 X.x3, .int .u8 fl, .int .u32 X.x5, .int .u16 X.x6, X.x7]
theorem shape_in (k : Int) : shapeF k = 0 ∨ shapeF k = 1 ∨ shapeF k = 2 ∨ shapeF k = 3 ∨ shapeF k = 4 ∨ shapeF k = 5 ∨ shapeF k = 6 ∨ shapeF k = 7 ∨ shapeF k = 8 := by
  unfold shapeF
  repeat' split
  all_goals omega
variable {S : Set0} (hS : StdR S)
include hS
theorem needed_spec (h : H) : Exact S.cfg 7 [] h (.int .u32 565760) := by
  refine into Try.f7 _ Try.func7 (hS.ownR _ (by decide)) rfl rfl (by kernel_rfl) (by kernel_rfl) ?_
  simp +contextual (disch := first | (simp only [fq]; done) | omega | (simp only [Knx]; omega) | (apply Nat.le_antisymm <;> simp only [Knx] <;> omega) | fail) only [wpy, fW, reduceLE, reduceLT, reduceLeDiff, UInt8.reduceToNat, ↓reduceIte, reduceEqDiff, reduceAdd, reduceCtorEq, reduceToNat, Try.f7]
theorem caps_spec (c : Int) (h : H) : Exact S.cfg 28 [.int .u32 c] h (.int .i64 (@ite _ (iAnd .u32 c 565760 = 565760) (Classical.propDecidable _) 0 5)) := by
  refine into Try.f28 _ Try.func28 (hS.ownR _ (by decide)) rfl rfl (by kernel_rfl) (by kernel_rfl) ?_
  simp +contextual (disch := first | (simp only [fq]; done) | omega | (simp only [Knx]; omega) | (apply Nat.le_antisymm <;> simp only [Knx] <;> omega) | fail) only [wpy, fW, reduceLE, reduceLT, reduceLeDiff, UInt8.reduceToNat, ↓reduceIte, reduceEqDiff, reduceAdd, reduceCtorEq, reduceToNat, Try.f28]
  refine callF_exact (needed_spec hS _) ?_
  simp +contextual (disch := first | (simp only [fq]; done) | omega | (simp only [Knx]; omega) | (apply Nat.le_antisymm <;> simp only [Knx] <;> omega) | fail) only [wpy, fW, reduceLE, reduceLT, reduceLeDiff, UInt8.reduceToNat, ↓reduceIte, reduceEqDiff, reduceAdd, reduceCtorEq, reduceToNat, Try.f28]
  refine callF_exact (needed_spec hS _) ?_
  by_cases q : iAnd .u32 c 565760 = 565760
  · rw [if_pos q]
    have q' := eq_true q
    simp +contextual (disch := first | (simp only [fq]; done) | omega | (simp only [Knx]; omega) | (apply Nat.le_antisymm <;> simp only [Knx] <;> omega) | fail) only [wpy, fW, reduceLE, reduceLT, reduceLeDiff, UInt8.reduceToNat, ↓reduceIte, reduceEqDiff, reduceAdd, reduceCtorEq, reduceToNat, Try.f28, q']
  · rw [if_neg q]
    simp +contextual (disch := first | (simp only [fq]; done) | omega | (simp only [Knx]; omega) | (apply Nat.le_antisymm <;> simp only [Knx] <;> omega) | fail) only [wpy, fW, reduceLE, reduceLT, reduceLeDiff, UInt8.reduceToNat, ↓reduceIte, reduceEqDiff, reduceAdd, reduceCtorEq, reduceToNat, Try.f28, q]
theorem bare_spec (X : RX) (hX : X.x7.cells = [X.x7] ∧ X.x7.isCell = true) (k fl : Int) (h : H) : Pure S.cfg 42 [.agg (cmdC X k fl)] h fun v _ => v = .agg (bareX X k fl) := by
  refine into Try.f42 _ Try.func42 (hS.ownR _ (by decide)) rfl rfl (by kernel_rfl) (by kernel_rfl) ?_
  unfold cmdC
  have x1 := hX.1
  have x2 := hX.2
  simp +contextual (disch := first | (simp only [fq]; done) | omega | (simp only [Knx]; omega) | (apply Nat.le_antisymm <;> simp only [Knx] <;> omega) | fail) only [wpy, fW, reduceLE, reduceLT, reduceLeDiff, UInt8.reduceToNat, ↓reduceIte, reduceEqDiff, reduceAdd, reduceCtorEq, reduceToNat, Try.f42, x1, x2]
  refine ⟨.inr (by omega), ?_⟩
  generalize hhA : H.put (H.push (H.push (H.push h _) _) _) _ _ = hA
  have hxA : Ext h hA := by rw [← hhA]; exact ((((Ext.refl h).push _).push _).push _).put (by omega) _
  have nA : hA.nx = h.nx + 3 := by rw [← hhA]; rfl
  have g0 : hA.get h.nx = some (.cells (cmdC X k fl) 29 false) := by rw [← hhA, put_ne (by omega), push_ne (by simp only [push_nx]; omega), push_ne (by simp only [push_nx]; omega)]; exact push_eq rfl
  have g1 : hA.get (h.nx + 1) = some (.cells [.int .u8 0, .str [], .int .u32 0, .int .u16 0, .int .u8 0, .int .u32 0, .int .u16 0, .nilslice] 29 false) := by rw [← hhA, put_ne (by omega), push_ne (by simp only [push_nx]; omega)]; exact push_eq rfl
  have g2 : hA.get (h.nx + 1 + 1) = some (.cells [.int .u8 k, .str [], .int .u32 0, .int .u16 0, .int .u8 0, .int .u32 0, .int .u16 0, .nilslice] 29 false) := by rw [← hhA]; exact put_eq rfl
  clear hhA
  refine callF_pure (shape_spec hS k _) ?_
  rintro _ h1 hx1 rfl
  have n1 := hx1.1
  have k0 : h1.get h.nx = some (.cells (cmdC X k fl) 29 false) := by rw [hx1.2 _ (by omega)]; exact g0
  have k1 := (hx1.2 (h.nx + 1) (by omega)).trans g1
  have k2 := (hx1.2 (h.nx + 1 + 1) (by omega)).trans g2
  unfold cmdC at k0
  have hx := hxA.trans hx1
  have hp : ∀ o1, Ext h (h1.put (h.nx + 1) o1) := fun o1 => hx.put (by omega) o1
  unfold bareX
  have hp2 : ∀ o1 o2, Ext h ((h1.put (h.nx + 1 + 1) o1).put (h.nx + 1) o2) := fun o1 o2 => (hx.put (by omega) o1).put (by omega) o2
  have hp3 : ∀ o1 o2 o3, Ext h (((h1.put (h.nx + 1 + 1) o1).put (h.nx + 1 + 1) o2).put (h.nx + 1) o3) := fun o1 o2 o3 => ((hx.put (by omega) o1).put (by omega) o2).put (by omega) o3
  have hp4 : ∀ o1 o2 o3 o4, Ext h ((((h1.put (h.nx + 1 + 1) o1).put (h.nx + 1 + 1) o2).put (h.nx + 1 + 1) o3).put (h.nx + 1) o4) := fun o1 o2 o3 o4 => (((hx.put (by omega) o1).put (by omega) o2).put (by omega) o3).put (by omega) o4
  have rw1 : ∀ o n o' n', fpApart (.lg [.rd h.nx o n]) (.lg [.wr (h.nx + 1 + 1) o' n']) := fun o n o' n' => rd_wr (by omega)
  have q1 : ¬ h.nx = h.nx + 1 + 1 := by omega
  rcases shape_in k with e | e | e | e | e | e | e | e | e
  · simp +contextual (disch := first | (simp only [fq]; done) | omega | (simp only [Knx]; omega) | (apply Nat.le_antisymm <;> simp only [Knx] <;> omega) | fail) only [wpy, fW, reduceLE, reduceLT, reduceLeDiff, UInt8.reduceToNat, ↓reduceIte, reduceEqDiff, reduceAdd, reduceCtorEq, reduceToNat, Try.f42, e, k0, k1, k2, Int.reduceEq, x1, x2]
    exact ⟨.inr (by omega), hp _⟩
  · simp +contextual (disch := first | (simp only [fq]; done) | omega | (simp only [Knx]; omega) | (apply Nat.le_antisymm <;> simp only [Knx] <;> omega) | fail) only [wpy, fW, reduceLE, reduceLT, reduceLeDiff, UInt8.reduceToNat, ↓reduceIte, reduceEqDiff, reduceAdd, reduceCtorEq, reduceToNat, Try.f42, e, k0, k1, k2, Int.reduceEq, x1, x2]
    exact ⟨.inr (by omega), .inr (by omega), hp2 _ _⟩
  · simp +contextual (disch := first | (simp only [fq]; done) | omega | (simp only [Knx]; omega) | (apply Nat.le_antisymm <;> simp only [Knx] <;> omega) | fail) only [wpy, fW, reduceLE, reduceLT, reduceLeDiff, UInt8.reduceToNat, ↓reduceIte, reduceEqDiff, reduceAdd, reduceCtorEq, reduceToNat, Try.f42, e, k0, k1, k2, Int.reduceEq, x1, x2]
    exact ⟨.inr (by omega), .inr (by omega), hp2 _ _⟩
  · simp +contextual (disch := first | (simp only [fq]; done) | omega | (simp only [Knx]; omega) | (apply Nat.le_antisymm <;> simp only [Knx] <;> omega) | fail) only [wpy, fW, reduceLE, reduceLT, reduceLeDiff, UInt8.reduceToNat, ↓reduceIte, reduceEqDiff, reduceAdd, reduceCtorEq, reduceToNat, Try.f42, e, k0, k1, k2, Int.reduceEq, x1, x2]
    refine draw_by [(3, 7), (5, 7), (5, 9)] (by kernel_rfl) ?_
    simp +contextual (disch := first | (simp only [fq]; done) | omega | (simp only [Knx]; omega) | (apply Nat.le_antisymm <;> simp only [Knx] <;> omega) | fail) only [wpy, fW, reduceLE, reduceLT, reduceLeDiff, UInt8.reduceToNat, ↓reduceIte, reduceEqDiff, reduceAdd, reduceCtorEq, reduceToNat, Try.f42, e, k0, k1, k2, Int.reduceEq, x1, x2, q1]
    refine ⟨.inr (by omega), .inr (by omega), .inr (by omega), fun p hp => ?_, .inr (by omega), hp4 _ _ _ _⟩
    simp only [List.mem_cons, List.not_mem_nil, or_false] at hp
    rcases hp with rfl | rfl | rfl
    · exact pair_one rfl rfl (rw1 _ _ _ _)
    · exact pair_one rfl rfl (rw1 _ _ _ _)
    · exact pair_one rfl rfl (rw1 _ _ _ _)
  · simp +contextual (disch := first | (simp only [fq]; done) | omega | (simp only [Knx]; omega) | (apply Nat.le_antisymm <;> simp only [Knx] <;> omega) | fail) only [wpy, fW, reduceLE, reduceLT, reduceLeDiff, UInt8.reduceToNat, ↓reduceIte, reduceEqDiff, reduceAdd, reduceCtorEq, reduceToNat, Try.f42, e, k0, k1, k2, Int.reduceEq, x1, x2]
    refine draw_by [(3, 7), (5, 7), (5, 9)] (by kernel_rfl) ?_
    simp +contextual (disch := first | (simp only [fq]; done) | omega | (simp only [Knx]; omega) | (apply Nat.le_antisymm <;> simp only [Knx] <;> omega) | fail) only [wpy, fW, reduceLE, reduceLT, reduceLeDiff, UInt8.reduceToNat, ↓reduceIte, reduceEqDiff, reduceAdd, reduceCtorEq, reduceToNat, Try.f42, e, k0, k1, k2, Int.reduceEq, x1, x2, q1]
    refine ⟨.inr (by omega), .inr (by omega), .inr (by omega), fun p hp => ?_, .inr (by omega), hp4 _ _ _ _⟩
    simp only [List.mem_cons, List.not_mem_nil, or_false] at hp
    rcases hp with rfl | rfl | rfl
    · exact pair_one rfl rfl (rw1 _ _ _ _)
    · exact pair_one rfl rfl (rw1 _ _ _ _)
    · exact pair_one rfl rfl (rw1 _ _ _ _)
  · simp +contextual (disch := first | (simp only [fq]; done) | omega | (simp only [Knx]; omega) | (apply Nat.le_antisymm <;> simp only [Knx] <;> omega) | fail) only [wpy, fW, reduceLE, reduceLT, reduceLeDiff, UInt8.reduceToNat, ↓reduceIte, reduceEqDiff, reduceAdd, reduceCtorEq, reduceToNat, Try.f42, e, k0, k1, k2, Int.reduceEq, x1, x2]
    exact ⟨.inr (by omega), .inr (by omega), hp2 _ _⟩
  · simp +contextual (disch := first | (simp only [fq]; done) | omega | (simp only [Knx]; omega) | (apply Nat.le_antisymm <;> simp only [Knx] <;> omega) | fail) only [wpy, fW, reduceLE, reduceLT, reduceLeDiff, UInt8.reduceToNat, ↓reduceIte, reduceEqDiff, reduceAdd, reduceCtorEq, reduceToNat, Try.f42, e, k0, k1, k2, Int.reduceEq, x1, x2]
    exact ⟨.inr (by omega), .inr (by omega), hp2 _ _⟩
  · simp +contextual (disch := first | (simp only [fq]; done) | omega | (simp only [Knx]; omega) | (apply Nat.le_antisymm <;> simp only [Knx] <;> omega) | fail) only [wpy, fW, reduceLE, reduceLT, reduceLeDiff, UInt8.reduceToNat, ↓reduceIte, reduceEqDiff, reduceAdd, reduceCtorEq, reduceToNat, Try.f42, e, k0, k1, k2, Int.reduceEq, x1, x2]
    refine draw_by [(3, 5)] (by kernel_rfl) ?_
    simp +contextual (disch := first | (simp only [fq]; done) | omega | (simp only [Knx]; omega) | (apply Nat.le_antisymm <;> simp only [Knx] <;> omega) | fail) only [wpy, fW, reduceLE, reduceLT, reduceLeDiff, UInt8.reduceToNat, ↓reduceIte, reduceEqDiff, reduceAdd, reduceCtorEq, reduceToNat, Try.f42, e, k0, k1, k2, Int.reduceEq, x1, x2, q1]
    refine ⟨.inr (by omega), .inr (by omega), fun p hp => ?_, .inr (by omega), hp3 _ _ _⟩
    rw [List.mem_singleton.1 hp]
    exact pair_one rfl rfl (rw1 _ _ _ _)
  · simp +contextual (disch := first | (simp only [fq]; done) | omega | (simp only [Knx]; omega) | (apply Nat.le_antisymm <;> simp only [Knx] <;> omega) | fail) only [wpy, fW, reduceLE, reduceLT, reduceLeDiff, UInt8.reduceToNat, ↓reduceIte, reduceEqDiff, reduceAdd, reduceCtorEq, reduceToNat, Try.f42, e, k0, k1, k2, Int.reduceEq, x1, x2]
    exact ⟨.inr (by omega), .inr (by omega), hp2 _ _⟩
theorem check_spec {X : RX} {d : List Nat} {h : H} (b : BS 5 h X.x7 d) (k fl : Int) : Pure S.cfg 23 [.agg (cmdC X k fl)] h fun v _ => v = .int .i64 (@ite _ (cmdOk X k fl d.length) (Classical.propDecidable _) 0 2) := by
  refine into Try.f23 _ Try.func23 (hS.ownR _ (by decide)) rfl rfl (by kernel_rfl) (by kernel_rfl) ?_
  have hX := b.cell
  have x1 := hX.1
  have x2 := hX.2
  have bs := fun h => bare_spec hS X hX k fl h
  unfold cmdC at bs ⊢
  simp +contextual (disch := first | (simp only [fq]; done) | omega | (simp only [Knx]; omega) | (apply Nat.le_antisymm <;> simp only [Knx] <;> omega) | fail) only [wpy, fW, reduceLE, reduceLT, reduceLeDiff, UInt8.reduceToNat, ↓reduceIte, reduceEqDiff, reduceAdd, reduceCtorEq, reduceToNat, Try.f23, x1, x2]
  refine callF_pure (bs _) ?_
  rintro _ h1 hx1 rfl
  have n1 := hx1.1
  have g0 : h1.get h.nx = some (.cells [.int .u8 k, .str X.x1, .int .u32 X.x2, .int .u16 X.x3, .int .u8 fl, .int .u32 X.x5, .int .u16 X.x6, X.x7] 29 false) := by rw [hx1.2 _ (by simp only [push_nx]; omega)]; exact push_eq rfl
  have hx : Ext h h1 := ((Ext.refl h).push _).trans hx1
  simp only [push_nx] at n1
  have l1 := b.len 5
  have l2 := (BS.nil 5 h).len 5
  have nc : V.nilslice.cells = [V.nilslice] := rfl
  have ni : V.nilslice.isCell = true := rfl
  have q : ¬ h.nx = h1.nx := by omega
  unfold bareX
  have hE : ∀ o1 o2, Ext h ((h1.push o1).put h1.nx o2) := fun o1 o2 => (hx.push o1).put (by omega) o2
  have hb0 : d.length = 0 ∨ 0 < d.length := by omega
  rcases shape_in k with e | e | e | e | e | e | e | e | e
  all_goals
    simp +contextual (disch := first | (simp only [fq]; done) | omega | (simp only [Knx]; omega) | (apply Nat.le_antisymm <;> simp only [Knx] <;> omega) | fail) only [wpy, fW, reduceLE, reduceLT, reduceLeDiff, UInt8.reduceToNat, ↓reduceIte, reduceEqDiff, reduceAdd, reduceCtorEq, reduceToNat, Try.f23, e, g0, Int.reduceEq, x1, x2, l1, l2, nc, ni, q]
    refine ⟨.inr (by omega), fun w => ⟨hE _ _, ?_⟩, fun w => ⟨hE _ _, ?_⟩⟩
    · rw [if_neg]
      intro u
      unfold cmdOk at u
      rw [e] at u
      grind
    · rw [if_pos]
      unfold cmdOk
      rw [e]
      grind
end
noncomputable section
theorem answer_in (k : Int) : answerF k = 1 ∨ answerF k = 2 ∨ answerF k = 3 ∨ answerF k = 4 ∨ answerF k = 5 ∨ answerF k = 6 ∨ answerF k = 7 ∨ answerF k = 8 ∨ answerF k = 9 := by
  unfold answerF
  repeat' split
  all_goals omega
def firstN (k : Int) : Option FuncId := if answerF k = 1 then none else if answerF k = 2 then some 32 else if answerF k = 3 then some 33 else if answerF k = 4 then some 34 else if answerF k = 5 then some 35 else if answerF k = 6 then some 36 else if answerF k = 7 then some 37 else some 38
def newS (c k fl : Int) (cols : List CO) : RS := ⟨c, k, fl, firstN k, ¬ answerF k = 1, False, 0, if answerF k = 7 then cols else [], [], 0, False, 0, ¬ k = 3⟩
def newOk (X : RX) (c k fl : Int) (n : Nat) : Prop := iAnd .u32 c 565760 = 565760 ∧ cmdOk X k fl n ∧ ¬ answerF k = 8
theorem _root_.Go.Wx.Ext.trans_but' {r : Nat} {h a b : H} (x : Ext h a) (y : But r a b) (hr : h.nx ≤ r) : Ext h b := ⟨Nat.le_trans x.1 y.1, fun k hk => by rw [y.2 k (Nat.lt_of_lt_of_le hk x.1) (by omega), x.2 k hk]⟩
variable {S : Set0} (hS : StdR S)
include hS
theorem clone0_spec (h : H) : Exact S.cfg 30 [.nilslice] h .nilslice := by
  refine into Try.f30 _ Try.func30 (hS.ownR _ (by decide)) rfl rfl (by kernel_rfl) (by kernel_rfl) ?_
  have e : ∀ t, binV Try.prog .eql 56 (constO (.tmp t) || constO (.const (Value.slice none 0 0))) .nilslice .nilslice = some (bo True) := fun t => by
    rw [show bo True = .bool true by simp [bo]]
    rfl
  simp +contextual (disch := first | (simp only [fq]; done) | omega | (simp only [Knx]; omega) | (apply Nat.le_antisymm <;> simp only [Knx] <;> omega) | fail) only [wpy, fW, reduceLE, reduceLT, reduceLeDiff, UInt8.reduceToNat, ↓reduceIte, reduceEqDiff, reduceAdd, reduceCtorEq, reduceToNat, Try.f30, e]
theorem new_spec {X : RX} {d : List Nat} {h : H} (b : BS 5 h X.x7 d) (c k fl : Int) : Pure S.cfg 12 [.int .u32 c, .agg (cmdC X k fl), .nilslice] h fun w h' => (newOk X c k fl d.length → ∃ r, w = .tuple [.ptr r 0, .int .i64 0] ∧ RF X h.nx r (newS c k fl []) .nilslice .nilslice h') ∧ (¬ newOk X c k fl d.length → w = .tuple [.nilptr, .int .i64 2]) := by
  refine into Try.f12 _ Try.func12 (hS.ownR _ (by decide)) rfl rfl (by kernel_rfl) (by kernel_rfl) ?_
  have hX := b.cell
  have x1 := hX.1
  have x2 := hX.2
  have cs := fun h b => check_spec hS (X := X) (d := d) (h := h) b k fl
  unfold cmdC at cs ⊢
  simp +contextual (disch := first | (simp only [fq]; done) | omega | (simp only [Knx]; omega) | (apply Nat.le_antisymm <;> simp only [Knx] <;> omega) | fail) only [wpy, fW, reduceLE, reduceLT, reduceLeDiff, UInt8.reduceToNat, ↓reduceIte, reduceEqDiff, reduceAdd, reduceCtorEq, reduceToNat, Try.f12, x1, x2]
  generalize hhA : H.push h _ = hA
  have hxA : Ext h hA := by rw [← hhA]; exact (Ext.refl h).push _
  have nA : hA.nx = h.nx + 1 := by rw [← hhA]; rfl
  have gA : hA.get h.nx = some (.cells [.int .u8 k, .str X.x1, .int .u32 X.x2, .int .u16 X.x3, .int .u8 fl, .int .u32 X.x5, .int .u16 X.x6, X.x7] 29 false) := by rw [← hhA]; exact push_eq rfl
  clear hhA
  refine callF_pure (answer_spec hS k _) ?_
  rintro _ h1 hx1 rfl
  have n1 := hx1.1
  have g1 := (hx1.2 _ (by omega)).trans gA
  have hxh1 := hxA.trans hx1
  simp +contextual (disch := first | (simp only [fq]; done) | omega | (simp only [Knx]; omega) | (apply Nat.le_antisymm <;> simp only [Knx] <;> omega) | fail) only [wpy, fW, reduceLE, reduceLT, reduceLeDiff, UInt8.reduceToNat, ↓reduceIte, reduceEqDiff, reduceAdd, reduceCtorEq, reduceToNat, Try.f12]
  refine callF_exact (caps_spec hS c _) ?_
  by_cases hc : iAnd .u32 c 565760 = 565760
  case neg =>
    rw [if_neg hc]
    simp +contextual (disch := first | (simp only [fq]; done) | omega | (simp only [Knx]; omega) | (apply Nat.le_antisymm <;> simp only [Knx] <;> omega) | fail) only [wpy, fW, reduceLE, reduceLT, reduceLeDiff, UInt8.reduceToNat, ↓reduceIte, reduceEqDiff, reduceAdd, reduceCtorEq, reduceToNat, Try.f12, Int.reduceEq]
    exact ⟨hxh1, fun q => absurd q.1 hc⟩
  rw [if_pos hc]
  simp +contextual (disch := first | (simp only [fq]; done) | omega | (simp only [Knx]; omega) | (apply Nat.le_antisymm <;> simp only [Knx] <;> omega) | fail) only [wpy, fW, reduceLE, reduceLT, reduceLeDiff, UInt8.reduceToNat, ↓reduceIte, reduceEqDiff, reduceAdd, reduceCtorEq, reduceToNat, Try.f12, Int.reduceEq, g1]
  refine callF_pure (cs _ (b.ext hxh1)) ?_
  rintro _ h2 hx2 rfl
  have n2 := hx2.1
  have g2 := (hx2.2 _ (by omega)).trans g1
  have hxh2 := hxh1.trans hx2
  by_cases hk : cmdOk X k fl d.length
  case neg =>
    rw [if_neg hk]
    simp +contextual (disch := first | (simp only [fq]; done) | omega | (simp only [Knx]; omega) | (apply Nat.le_antisymm <;> simp only [Knx] <;> omega) | fail) only [wpy, fW, reduceLE, reduceLT, reduceLeDiff, UInt8.reduceToNat, ↓reduceIte, reduceEqDiff, reduceAdd, reduceCtorEq, reduceToNat, Try.f12, Int.reduceEq]
    exact ⟨hxh2, fun q => absurd q.2.1 hk⟩
  rw [if_pos hk]
  by_cases h8 : answerF k = 8
  · simp +contextual (disch := first | (simp only [fq]; done) | omega | (simp only [Knx]; omega) | (apply Nat.le_antisymm <;> simp only [Knx] <;> omega) | fail) only [wpy, fW, reduceLE, reduceLT, reduceLeDiff, UInt8.reduceToNat, ↓reduceIte, reduceEqDiff, reduceAdd, reduceCtorEq, reduceToNat, Try.f12, Int.reduceEq, h8]
    exact ⟨hxh2, fun q => absurd h8 q.2.2⟩
  have hok : newOk X c k fl d.length := ⟨hc, hk, h8⟩
  have z1 : ¬ ((4096 : Int) < 0) := by decide
  have z2 : ¬ ((4096 : Nat) < 0) := by decide
  simp +contextual (disch := first | (simp only [fq]; done) | omega | (simp only [Knx]; omega) | (apply Nat.le_antisymm <;> simp only [Knx] <;> omega) | fail) only [wpy, fW, reduceLE, reduceLT, reduceLeDiff, UInt8.reduceToNat, ↓reduceIte, reduceEqDiff, reduceAdd, reduceCtorEq, reduceToNat, Try.f12, Int.reduceEq, h8, z1, z2]
  refine run_loop (fun m env h' => m = 0 ∧ h' = h2 ∧ env 0 = .int .u32 c ∧ env 2 = .nilslice ∧ env 4 = .ptr h.nx 0 ∧ env 8 = .int .i64 (answerF k) ∧ env 33 = .int .i64 0 ∧ env 34 = .int .i64 0) 0 ?_ ?_
  · simp +contextual (disch := first | (simp only [fq]; done) | omega | (simp only [Knx]; omega) | (apply Nat.le_antisymm <;> simp only [Knx] <;> omega) | fail) only [wpy, fW, reduceLE, reduceLT, reduceLeDiff, UInt8.reduceToNat, ↓reduceIte, reduceEqDiff, reduceAdd, reduceCtorEq, reduceToNat]
  rintro _ env h' ⟨rfl, rfl, e0, e2, e4, e8, e33, e34⟩
  have z3 : ¬ ((0 : Int) < 0) := by decide
  have nc : V.nilslice.cells = [V.nilslice] := rfl
  have ni : V.nilslice.isCell = true := rfl
  generalize hhB : h'.push (.cells [.int .u32 c, .int .u8 k, .str X.x1, .int .u32 X.x2, .int .u16 X.x3, .int .u8 fl, .int .u32 X.x5, .int .u16 X.x6, X.x7, .nilfunc, bo False, bo False, .int .i64 0, .nilslice, .nilslice, .int .i64 0, bo False, .int .u16 0, bo (¬ k = 3), bo True] 58 false) = hB
  have hxB : Ext h hB := by rw [← hhB]; exact hxh2.push _
  have nB : hB.nx = h'.nx + 1 := by rw [← hhB]; rfl
  have gr : hB.get h'.nx = some (.cells [.int .u32 c, .int .u8 k, .str X.x1, .int .u32 X.x2, .int .u16 X.x3, .int .u8 fl, .int .u32 X.x5, .int .u16 X.x6, X.x7, .nilfunc, bo False, bo False, .int .i64 0, .nilslice, .nilslice, .int .i64 0, bo False, .int .u16 0, bo (¬ k = 3), bo True] 58 false) := by rw [← hhB]; exact push_eq rfl
  have hnh : h.nx ≤ h'.nx := hxh2.1
  obtain ⟨s0, hs0⟩ : ∃ s0 : RS, (⟨c, k, fl, none, False, False, 0, [], [], 0, False, 0, ¬ k = 3⟩ : RS) = s0 := ⟨_, rfl⟩
  have a0 : RR X h.nx h'.nx s0 .nilslice .nilslice hB := by
    rw [← hs0]
    exact ⟨gr, lst_nil _ _ _ _, fun _ => rfl, off_nil _, off_nil _, ⟨rfl, rfl⟩, ⟨hnh, by omega⟩, hX⟩
  have c0 : s0.cols = [] := by rw [← hs0]
  have okr : ∀ j, j = h'.nx → fresh h.nx nil1 j := fun j hj => by rw [fresh_def]; exact .inl (by omega)
  rcases answer_in k with e | e | e | e | e | e | e | e | e
  · have hn : newS c k fl [] = s0 := by rw [← hs0]; unfold newS firstN; rw [e]; simp
    simp +contextual (disch := first | (simp only [fq]; done) | omega | (simp only [Knx]; omega) | (apply Nat.le_antisymm <;> simp only [Knx] <;> omega) | fail) only [wpy, fW, reduceLE, reduceLT, reduceLeDiff, UInt8.reduceToNat, ↓reduceIte, reduceEqDiff, reduceAdd, reduceCtorEq, reduceToNat, Try.f12, e0, e2, e4, e8, e33, e34, z3, g2, x1, x2, e, Int.reduceEq, hhB]
    exact ⟨hxB, fun _ => ⟨h'.nx, rfl, by rw [hn]; exact ⟨a0, rcs_nil c0, .inr (sep_nil _)⟩⟩, fun q => absurd hok q⟩
  · have hn : newS c k fl [] = s0.await 32 True := by rw [← hs0]; unfold newS firstN RS.await; rw [e]; simp
    simp +contextual (disch := first | (simp only [fq]; done) | omega | (simp only [Knx]; omega) | (apply Nat.le_antisymm <;> simp only [Knx] <;> omega) | fail) only [wpy, fW, reduceLE, reduceLT, reduceLeDiff, UInt8.reduceToNat, ↓reduceIte, reduceEqDiff, reduceAdd, reduceCtorEq, reduceToNat, Try.f12, e0, e2, e4, e8, e33, e34, z3, g2, x1, x2, e, Int.reduceEq, hhB]
    refine callF_of (await_spec hS a0 32 True) okr ?_
    rintro _ h3 ⟨rfl, p3⟩
    simp +contextual (disch := first | (simp only [fq]; done) | omega | (simp only [Knx]; omega) | (apply Nat.le_antisymm <;> simp only [Knx] <;> omega) | fail) only [wpy, fW, reduceLE, reduceLT, reduceLeDiff, UInt8.reduceToNat, ↓reduceIte, reduceEqDiff, reduceAdd, reduceCtorEq, reduceToNat, Try.f12, e0, e2, e4, e8]
    exact ⟨hxB.trans_but' p3.2 (by omega), fun _ => ⟨h'.nx, rfl, by rw [hn]; exact ⟨p3.1, rcs_nil c0, .inr (sep_nil _)⟩⟩, fun q => absurd hok q⟩
  · have hn : newS c k fl [] = s0.await 33 True := by rw [← hs0]; unfold newS firstN RS.await; rw [e]; simp
    simp +contextual (disch := first | (simp only [fq]; done) | omega | (simp only [Knx]; omega) | (apply Nat.le_antisymm <;> simp only [Knx] <;> omega) | fail) only [wpy, fW, reduceLE, reduceLT, reduceLeDiff, UInt8.reduceToNat, ↓reduceIte, reduceEqDiff, reduceAdd, reduceCtorEq, reduceToNat, Try.f12, e0, e2, e4, e8, e33, e34, z3, g2, x1, x2, e, Int.reduceEq, hhB]
    refine callF_of (await_spec hS a0 33 True) okr ?_
    rintro _ h3 ⟨rfl, p3⟩
    simp +contextual (disch := first | (simp only [fq]; done) | omega | (simp only [Knx]; omega) | (apply Nat.le_antisymm <;> simp only [Knx] <;> omega) | fail) only [wpy, fW, reduceLE, reduceLT, reduceLeDiff, UInt8.reduceToNat, ↓reduceIte, reduceEqDiff, reduceAdd, reduceCtorEq, reduceToNat, Try.f12, e0, e2, e4, e8]
    exact ⟨hxB.trans_but' p3.2 (by omega), fun _ => ⟨h'.nx, rfl, by rw [hn]; exact ⟨p3.1, rcs_nil c0, .inr (sep_nil _)⟩⟩, fun q => absurd hok q⟩
  · have hn : newS c k fl [] = s0.await 34 True := by rw [← hs0]; unfold newS firstN RS.await; rw [e]; simp
    simp +contextual (disch := first | (simp only [fq]; done) | omega | (simp only [Knx]; omega) | (apply Nat.le_antisymm <;> simp only [Knx] <;> omega) | fail) only [wpy, fW, reduceLE, reduceLT, reduceLeDiff, UInt8.reduceToNat, ↓reduceIte, reduceEqDiff, reduceAdd, reduceCtorEq, reduceToNat, Try.f12, e0, e2, e4, e8, e33, e34, z3, g2, x1, x2, e, Int.reduceEq, hhB]
    refine callF_of (await_spec hS a0 34 True) okr ?_
    rintro _ h3 ⟨rfl, p3⟩
    simp +contextual (disch := first | (simp only [fq]; done) | omega | (simp only [Knx]; omega) | (apply Nat.le_antisymm <;> simp only [Knx] <;> omega) | fail) only [wpy, fW, reduceLE, reduceLT, reduceLeDiff, UInt8.reduceToNat, ↓reduceIte, reduceEqDiff, reduceAdd, reduceCtorEq, reduceToNat, Try.f12, e0, e2, e4, e8]
    exact ⟨hxB.trans_but' p3.2 (by omega), fun _ => ⟨h'.nx, rfl, by rw [hn]; exact ⟨p3.1, rcs_nil c0, .inr (sep_nil _)⟩⟩, fun q => absurd hok q⟩
  · have hn : newS c k fl [] = s0.await 35 True := by rw [← hs0]; unfold newS firstN RS.await; rw [e]; simp
    simp +contextual (disch := first | (simp only [fq]; done) | omega | (simp only [Knx]; omega) | (apply Nat.le_antisymm <;> simp only [Knx] <;> omega) | fail) only [wpy, fW, reduceLE, reduceLT, reduceLeDiff, UInt8.reduceToNat, ↓reduceIte, reduceEqDiff, reduceAdd, reduceCtorEq, reduceToNat, Try.f12, e0, e2, e4, e8, e33, e34, z3, g2, x1, x2, e, Int.reduceEq, hhB]
    refine callF_of (await_spec hS a0 35 True) okr ?_
    rintro _ h3 ⟨rfl, p3⟩
    simp +contextual (disch := first | (simp only [fq]; done) | omega | (simp only [Knx]; omega) | (apply Nat.le_antisymm <;> simp only [Knx] <;> omega) | fail) only [wpy, fW, reduceLE, reduceLT, reduceLeDiff, UInt8.reduceToNat, ↓reduceIte, reduceEqDiff, reduceAdd, reduceCtorEq, reduceToNat, Try.f12, e0, e2, e4, e8]
    exact ⟨hxB.trans_but' p3.2 (by omega), fun _ => ⟨h'.nx, rfl, by rw [hn]; exact ⟨p3.1, rcs_nil c0, .inr (sep_nil _)⟩⟩, fun q => absurd hok q⟩
  · have hn : newS c k fl [] = s0.await 36 True := by rw [← hs0]; unfold newS firstN RS.await; rw [e]; simp
    simp +contextual (disch := first | (simp only [fq]; done) | omega | (simp only [Knx]; omega) | (apply Nat.le_antisymm <;> simp only [Knx] <;> omega) | fail) only [wpy, fW, reduceLE, reduceLT, reduceLeDiff, UInt8.reduceToNat, ↓reduceIte, reduceEqDiff, reduceAdd, reduceCtorEq, reduceToNat, Try.f12, e0, e2, e4, e8, e33, e34, z3, g2, x1, x2, e, Int.reduceEq, hhB]
    refine callF_of (await_spec hS a0 36 True) okr ?_
    rintro _ h3 ⟨rfl, p3⟩
    simp +contextual (disch := first | (simp only [fq]; done) | omega | (simp only [Knx]; omega) | (apply Nat.le_antisymm <;> simp only [Knx] <;> omega) | fail) only [wpy, fW, reduceLE, reduceLT, reduceLeDiff, UInt8.reduceToNat, ↓reduceIte, reduceEqDiff, reduceAdd, reduceCtorEq, reduceToNat, Try.f12, e0, e2, e4, e8]
    exact ⟨hxB.trans_but' p3.2 (by omega), fun _ => ⟨h'.nx, rfl, by rw [hn]; exact ⟨p3.1, rcs_nil c0, .inr (sep_nil _)⟩⟩, fun q => absurd hok q⟩
  · have hn : newS c k fl [] = s0.await 37 True := by rw [← hs0]; unfold newS firstN RS.await; rw [e]; simp
    simp +contextual (disch := first | (simp only [fq]; done) | omega | (simp only [Knx]; omega) | (apply Nat.le_antisymm <;> simp only [Knx] <;> omega) | fail) only [wpy, fW, reduceLE, reduceLT, reduceLeDiff, UInt8.reduceToNat, ↓reduceIte, reduceEqDiff, reduceAdd, reduceCtorEq, reduceToNat, Try.f12, e0, e2, e4, e8, e33, e34, z3, g2, x1, x2, e, Int.reduceEq, hhB]
    refine callF_exact (clone0_spec hS _) ?_
    simp +contextual (disch := first | (simp only [fq]; done) | omega | (simp only [Knx]; omega) | (apply Nat.le_antisymm <;> simp only [Knx] <;> omega) | fail) only [wpy, fW, reduceLE, reduceLT, reduceLeDiff, UInt8.reduceToNat, ↓reduceIte, reduceEqDiff, reduceAdd, reduceCtorEq, reduceToNat, Try.f12, gr, nc, ni, e0, e2, e4, e8, e, Int.reduceEq]
    have a1 : RR X h.nx h'.nx s0 .nilslice .nilslice (hB.put h'.nx (.cells (rsC X h'.nx s0 .nilslice .nilslice) 58 false)) := a0.put rfl
    have b1 : Ext h (hB.put h'.nx (.cells (rsC X h'.nx s0 .nilslice .nilslice) 58 false)) := hxB.put (by omega) _
    rw [← hs0] at a1 b1
    refine ⟨.inr (by omega), callF_of (await_spec hS a1 37 True) okr ?_⟩
    rintro _ h3 ⟨rfl, p3⟩
    simp +contextual (disch := first | (simp only [fq]; done) | omega | (simp only [Knx]; omega) | (apply Nat.le_antisymm <;> simp only [Knx] <;> omega) | fail) only [wpy, fW, reduceLE, reduceLT, reduceLeDiff, UInt8.reduceToNat, ↓reduceIte, reduceEqDiff, reduceAdd, reduceCtorEq, reduceToNat, Try.f12, e0, e2, e4, e8]
    rw [hs0] at p3 b1
    exact ⟨b1.trans_but' p3.2 (by omega), fun _ => ⟨h'.nx, rfl, by rw [hn]; exact ⟨p3.1, rcs_nil c0, .inr (sep_nil _)⟩⟩, fun q => absurd hok q⟩
  · exact absurd e h8
  · have hn : newS c k fl [] = s0.await 38 True := by rw [← hs0]; unfold newS firstN RS.await; rw [e]; simp
    simp +contextual (disch := first | (simp only [fq]; done) | omega | (simp only [Knx]; omega) | (apply Nat.le_antisymm <;> simp only [Knx] <;> omega) | fail) only [wpy, fW, reduceLE, reduceLT, reduceLeDiff, UInt8.reduceToNat, ↓reduceIte, reduceEqDiff, reduceAdd, reduceCtorEq, reduceToNat, Try.f12, e0, e2, e4, e8, e33, e34, z3, g2, x1, x2, e, Int.reduceEq, hhB]
    refine callF_of (await_spec hS a0 38 True) okr ?_
    rintro _ h3 ⟨rfl, p3⟩
    simp +contextual (disch := first | (simp only [fq]; done) | omega | (simp only [Knx]; omega) | (apply Nat.le_antisymm <;> simp only [Knx] <;> omega) | fail) only [wpy, fW, reduceLE, reduceLT, reduceLeDiff, UInt8.reduceToNat, ↓reduceIte, reduceEqDiff, reduceAdd, reduceCtorEq, reduceToNat, Try.f12, e0, e2, e4, e8]
    exact ⟨hxB.trans_but' p3.2 (by omega), fun _ => ⟨h'.nx, rfl, by rw [hn]; exact ⟨p3.1, rcs_nil c0, .inr (sep_nil _)⟩⟩, fun q => absurd hok q⟩
end
noncomputable section
abbrev mayL : List Nat := [32, 33, 34, 35, 36, 37, 38, 53]
theorem RI.fin {s : RS} (i : RI s) : RI s.fin :=
  ⟨fun f q => (by cases q), fun q => (by cases q), fun q => (by cases q), fun q => (by rcases q with q | q <;> cases q), fun q => (by rcases q with q | q | q <;> cases q), i.ok, i.thn, i.lf, ⟨fun q => False.elim q, fun ⟨f, q, _⟩ => by cases q⟩⟩
theorem RI.awaitMay {s : RS} (i : RI s) (f : Nat) (hf : f ∈ mayL) (h37 : f = 37 → s.cols.length ≤ 4096) (h36 : f = 36 → s.cols = []) : RI (s.await f True) := by
  have nf : ∀ g, (s.await f True).nx = some g → g = f := fun g q => by
    have q : some f = some g := q
    injection q with q
    exact q.symm
  have no : ∀ g, (s.await f True).nx = some g → g ∉ mayL → False := fun g q h => by rw [nf g q] at h; exact h hf
  refine ⟨fun g q => ?_, fun q => (no _ q (by decide)).elim, fun q => (no _ q (by decide)).elim, fun q => ?_, fun q => ?_, i.ok, i.thn, i.lf, ⟨fun _ => ⟨f, rfl, hf⟩, fun _ => trivial⟩⟩
  · rw [nf g q]
    simp only [mayL, List.mem_cons, List.not_mem_nil, or_false] at hf
    rcases hf with rfl | rfl | rfl | rfl | rfl | rfl | rfl | rfl <;> decide
  · rcases q with q | q
    · exact h37 (nf _ q).symm
    · exact (no _ q (by decide)).elim
  · rcases q with q | q | q
    · exact h36 (nf _ q).symm
    · exact (no _ q (by decide)).elim
    · exact (no _ q (by decide)).elim
theorem RI.awaitNo {s : RS} (i : RI s) (f : Nat) (hf : f = 55 ∨ f = 74 ∨ f = 77 ∨ f = 90) (h55 : f = 55 → 1 ≤ s.left ∧ s.told.length + s.left ≤ 4096) (h77 : f = 77 → 1 ≤ s.left ∧ s.told.length + s.left ≤ 65536) (h74 : f = 74 → s.cols.length ≤ 4096) (h0 : f = 77 ∨ f = 90 → s.cols = []) : RI (s.await f False) := by
  have nf : ∀ g, (s.await f False).nx = some g → g = f := fun g q => by
    have q : some f = some g := q
    injection q with q
    exact q.symm
  have no : ∀ g, (s.await f False).nx = some g → g ∈ mayL → False := fun g q h => by
    rw [nf g q] at h
    rcases hf with rfl | rfl | rfl | rfl <;> exact absurd h (by decide)
  refine ⟨fun g q => ?_, fun q => h55 (nf _ q).symm, fun q => h77 (nf _ q).symm, fun q => ?_, fun q => ?_, i.ok, i.thn, i.lf, ⟨fun q => False.elim q, fun ⟨g, q, hg⟩ => ?_⟩⟩
  · rw [nf g q]
    rcases hf with rfl | rfl | rfl | rfl <;> decide
  · rcases q with q | q
    · exact (no _ q (by decide)).elim
    · exact h74 (nf _ q).symm
  · rcases q with q | q | q
    · exact (no _ q (by decide)).elim
    · exact h0 (.inl (nf _ q).symm)
    · exact h0 (.inr (nf _ q).symm)
  · exact no g q hg
theorem RI.err {s : RS} (i : RI s) (l : List Nat) : RI (errS s l).1 := by
  unfold errS; split
  · exact i
  · exact i.fin
theorem RI.st {s : RS} (i : RI s) (x : Int) : RI { s with st := x } := ⟨i.nx, i.l55, i.l77, i.c37, i.c0, i.ok, i.thn, i.lf, i.may⟩
theorem RI.ends {s : RS} (i : RI s) (x : Int) (m : Prop) : RI (s.ends x m) := by
  unfold RS.ends; split
  · exact i.awaitMay 35 (by decide) (fun q => by cases q) (fun q => by cases q)
  · exact i.fin
theorem RI.done {s : RS} (i : RI s) (l : List Nat) (k : Int) (m : Prop) : RI (doneS s l k m).1 := by
  unfold doneS; split
  · exact i
  · exact (i.st _).ends _ _
theorem RI.ok1 {s : RS} (i : RI s) (l : List Nat) (m : Prop) : RI (okS1 s l m).1 := by
  unfold okS1; split
  · exact i.done _ _ _
  · exact i.err _
theorem RI.eofOrOk {s : RS} (i : RI s) (l : List Nat) : RI (eofOrOkS s l).1 := by
  unfold eofOrOkS; split
  · exact i.ok1 _ _
  · exact (i.st _).fin
theorem RI.text {s : RS} (i : RI s) (l : List Nat) : RI (textS s l).1 := by
  unfold textS; split
  · exact i
  · split
    · exact i.err _
    · exact i.fin
theorem RI.first {s : RS} (i : RI s) (l : List Nat) : RI (firstS s l).1 := by
  unfold firstS; split
  · exact i.done _ _ _
  split
  · exact i.err _
  split
  · split
    · exact i
    · exact RI.awaitMay (s := { s with wants := True }) ⟨i.nx, i.l55, i.l77, i.c37, i.c0, i.ok, i.thn, i.lf, i.may⟩ 53 (by decide) (fun q => by cases q) (fun q => by cases q)
  split
  · exact i
  · rename_i he
    have hn := countF_in (l := l) (Classical.not_not.1 he)
    have hl : RI ({ s with left := (countF l).1, told := [], cols := [] } : RS).fin := ⟨fun f q => (by cases q), fun q => (by cases q), fun q => (by cases q), fun q => (by rcases q with q | q <;> cases q), fun q => (by rcases q with q | q | q <;> cases q), ⟨fun x hx => (by simp [RS.fin] at hx), fun x hx => (by simp [RS.fin] at hx)⟩, i.thn, ⟨(by show 0 ≤ (countF l).1; omega), (by show (countF l).1 ≤ 65535; omega)⟩, ⟨fun q => False.elim q, fun ⟨f, q, _⟩ => by cases q⟩⟩
    exact RI.awaitNo hl 55 (.inl rfl) (fun _ => ⟨hn.1, by show ((0 : Nat) : Int) + (countF l).1 ≤ 4096; omega⟩) (fun q => by cases q) (fun q => by cases q) (fun q => by rcases q with q | q <;> cases q)
theorem RI.one {s : RS} (i : RI s) (l : List Nat) (h1 : 1 ≤ s.left) : ((oneS s l).2 ≠ 0 ∧ (oneS s l).1 = s) ∨ ((oneS s l).2 = 0 ∧ (oneS s l).1 = { s with told := s.told ++ [(colF l).1], left := s.left - 1 }) := by
  unfold oneS
  split
  · exact .inl ⟨(show (5 : Int) ≠ 0 by decide), rfl⟩
  · exact .inr ⟨rfl, rfl⟩
theorem told_ok {s : RS} (i : RI s) (l : List Nat) : ∀ x ∈ s.told ++ [(colF l).1], x.Ok := fun x hx => by
  rcases List.mem_append.1 hx with q | q
  · exact i.ok.2 x q
  · rw [List.mem_singleton.1 q]; exact colF_ok l
structure RJ (s : RS) : Prop where
  ok : (∀ x ∈ s.cols, x.Ok) ∧ ∀ x ∈ s.told, x.Ok
  thn : 0 ≤ s.thn ∧ s.thn ≤ 65535
  lf : 0 ≤ s.left ∧ s.left ≤ 65535
theorem RJ.fin {s : RS} (i : RJ s) : RI s.fin :=
  ⟨fun f q => (by cases q), fun q => (by cases q), fun q => (by cases q), fun q => (by rcases q with q | q <;> cases q), fun q => (by rcases q with q | q | q <;> cases q), i.ok, i.thn, i.lf, ⟨fun q => False.elim q, fun ⟨f, q, _⟩ => by cases q⟩⟩
theorem RI.j {s : RS} (i : RI s) : RJ s := ⟨i.ok, i.thn, i.lf⟩
theorem RJ.no {s : RS} (i : RJ s) (f : Nat) (hf : f = 55 ∨ f = 74 ∨ f = 77 ∨ f = 90) (h55 : f = 55 → 1 ≤ s.left ∧ s.told.length + s.left ≤ 4096) (h77 : f = 77 → 1 ≤ s.left ∧ s.told.length + s.left ≤ 65536) (h74 : f = 74 → s.cols.length ≤ 4096) (h0 : f = 77 ∨ f = 90 → s.cols = []) : RI (s.await f False) := RI.awaitNo i.fin f hf h55 h77 h74 h0
theorem RJ.yes {s : RS} (i : RJ s) (f : Nat) (hf : f ∈ mayL) (h37 : f = 37 → s.cols.length ≤ 4096) (h36 : f = 36 → s.cols = []) : RI (s.await f True) := RI.awaitMay i.fin f hf h37 h36
theorem RI.further {s : RS} (i : RJ s) (hc : s.cols = []) : RI (furtherS s).1 := by
  have ja : RJ (furA s) ∧ (furA s).cols = [] := by
    unfold furA
    split
    · exact ⟨⟨i.ok, i.thn, i.thn⟩, hc⟩
    · exact ⟨i, hc⟩
  unfold furtherS
  generalize furA s = s1 at *
  split
  · exact ja.1.fin
  · rename_i hz
    have jl := ja.1.lf
    exact RJ.no (s := { s1 with told := [] }) ⟨⟨ja.1.ok.1, fun x hx => by cases hx⟩, ja.1.thn, ja.1.lf⟩ 77 (by decide) (fun q => (by cases q)) (fun _ => ⟨by show 1 ≤ s1.left; omega, by show ((0 : Nat) : Int) + s1.left ≤ 65536; omega⟩) (fun q => (by cases q)) (fun _ => ja.2)
theorem RI.after {s : RS} (i : RJ s) (hc : s.cols = []) : RI (afterS s).1 := by
  unfold afterS
  split
  · exact i.fin
  · exact RI.further i hc
theorem RI.defEnd {s : RS} (i : RI s) (h : s.nx = some 90) (l : List Nat) : RI (defEndS s l).1 := by
  unfold defEndS
  split
  · exact i
  · exact RI.after (s := { s with st := (eofF l).2.1 }) ⟨i.ok, i.thn, i.lf⟩ (i.c0 (.inr (.inr h)))
theorem RI.colEnd {s : RS} (i : RI s) (h : s.nx = some 74) (l : List Nat) : RI (colEndS s l).1 := by
  unfold colEndS
  split
  · exact i
  · show RI (@ite _ _ (Classical.propDecidable _) _ _)
    split
    · exact (i.st _).fin
    · exact RI.awaitMay (i.st _) 37 (by decide) (fun _ => i.c37 (.inr h)) (fun q => (by cases q))
theorem RI.prep {s : RS} (i : RI s) (h : s.nx = some 36) (l : List Nat) : RI (prepS s l).1 := by
  have hin := prepF_in l
  unfold prepS
  split
  · exact i.err l
  split
  · exact i
  · exact RI.further (s := { s with left := (prepF l).2.2.1, thn := (prepF l).2.1 }) ⟨i.ok, ⟨hin.1, by show (prepF l).2.1 ≤ 65535; omega⟩, ⟨hin.2.2.1, by show (prepF l).2.2.1 ≤ 65535; omega⟩⟩ (i.c0 (.inl h))
theorem RI.row {s : RS} (i : RI s) (l : List Nat) : RI (rowS s l).1 := by
  unfold rowS
  split
  · exact i.err l
  split
  · exact i.done _ _ _
  split
  · split
    · exact i
    · exact (i.st _).ends _ _
  split <;> exact i
theorem RI.col {s : RS} (i : RI s) (h : s.nx = some 55) (l : List Nat) : RI (colNS s l).1 := by
  have hl := i.l55 h
  have ilf := i.lf
  unfold colNS
  rcases i.one l hl.1 with ⟨h1, h2⟩ | ⟨h1, h2⟩
  · rw [if_pos h1, h2]; exact i
  · rw [if_neg (fun q => q h1), h2]
    have j : RJ { s with told := s.told ++ [(colF l).1], left := s.left - 1, cols := s.told ++ [(colF l).1] } := ⟨⟨told_ok i l, told_ok i l⟩, i.thn, ⟨by show 0 ≤ s.left - 1; omega, by show s.left - 1 ≤ 65535; omega⟩⟩
    have hlen : (s.told ++ [(colF l).1]).length = s.told.length + 1 := by rw [List.length_append]; rfl
    show RI (colN _)
    unfold colN
    split
    · split
      · exact RJ.no j 74 (by decide) (fun q => (by cases q)) (fun q => (by cases q)) (fun _ => by show (s.told ++ [(colF l).1]).length ≤ 4096; omega) (fun q => (by rcases q with q | q <;> cases q))
      · exact RJ.yes j 37 (by decide) (fun _ => by show (s.told ++ [(colF l).1]).length ≤ 4096; omega) (fun q => (by cases q))
    · rename_i hz
      have hz : ¬ s.left - 1 = 0 := hz
      have hne : ∀ f, s.nx = some f → f = 55 := fun f q => by rw [h] at q; injection q with q; exact q.symm
      refine ⟨i.nx, fun _ => ⟨by show 1 ≤ s.left - 1; omega, by show ((s.told ++ [(colF l).1]).length : Int) + (s.left - 1) ≤ 4096; omega⟩, fun q => ?_, fun q => ?_, fun q => ?_, j.ok, j.thn, j.lf, i.may⟩
      · have q : s.nx = some 77 := q
        rw [h] at q; cases q
      · have q : s.nx = some 37 ∨ s.nx = some 74 := q
        rw [h] at q; rcases q with q | q <;> cases q
      · have q : s.nx = some 36 ∨ s.nx = some 77 ∨ s.nx = some 90 := q
        rw [h] at q; rcases q with q | q | q <;> cases q
theorem RI.dfn {s : RS} (i : RI s) (h : s.nx = some 77) (l : List Nat) : RI (defNS s l).1 := by
  have hl := i.l77 h
  have ilf := i.lf
  have hc := i.c0 (.inr (.inl h))
  unfold defNS
  rcases i.one l hl.1 with ⟨h1, h2⟩ | ⟨h1, h2⟩
  · rw [if_pos h1, h2]; exact i
  · rw [if_neg (fun q => q h1), h2]
    have j : RJ { s with told := s.told ++ [(colF l).1], left := s.left - 1 } := ⟨⟨i.ok.1, told_ok i l⟩, i.thn, ⟨by show 0 ≤ s.left - 1; omega, by show s.left - 1 ≤ 65535; omega⟩⟩
    have hlen : (s.told ++ [(colF l).1]).length = s.told.length + 1 := by rw [List.length_append]; rfl
    show RI (defN _).1
    unfold defN
    split
    · split
      · exact RJ.no j 90 (by decide) (fun q => (by cases q)) (fun q => (by cases q)) (fun q => (by cases q)) (fun _ => hc)
      · exact RI.after j hc
    · rename_i hz
      have hz : ¬ s.left - 1 = 0 := hz
      refine ⟨i.nx, fun q => ?_, fun _ => ⟨by show 1 ≤ s.left - 1; omega, by show ((s.told ++ [(colF l).1]).length : Int) + (s.left - 1) ≤ 65536; omega⟩, fun q => ?_, fun _ => hc, j.ok, j.thn, j.lf, i.may⟩
      · have q : s.nx = some 55 := q
        rw [h] at q; cases q
      · have q : s.nx = some 37 ∨ s.nx = some 74 := q
        rw [h] at q; rcases q with q | q <;> cases q
theorem RI.next {s : RS} (i : RI s) {f : Nat} (hf : s.nx = some f) (l : List Nat) : RI (nextS s l).1 := by
  have hm := i.nx f hf
  simp only [List.mem_cons, List.not_mem_nil, or_false] at hm
  rcases hm with rfl | rfl | rfl | rfl | rfl | rfl | rfl | rfl | rfl | rfl | rfl | rfl
  · rw [show nextS s l = okS1 s l False by unfold nextS; rw [hf]; rfl]; exact i.ok1 _ _
  · rw [show nextS s l = eofOrOkS s l by unfold nextS; rw [hf]; rfl]; exact i.eofOrOk _
  · rw [show nextS s l = textS s l by unfold nextS; rw [hf]; rfl]; exact i.text _
  · rw [show nextS s l = firstS s l by unfold nextS; rw [hf]; rfl]; exact i.first _
  · rw [show nextS s l = prepS s l by unfold nextS; rw [hf]; rfl]; exact i.prep hf _
  · rw [show nextS s l = rowS s l by unfold nextS; rw [hf]; rfl]; exact i.row _
  · rw [show nextS s l = errS s l by unfold nextS; rw [hf]; rfl]; exact i.err _
  · rw [show nextS s l = okS1 s l True by unfold nextS; rw [hf]; rfl]; exact i.ok1 _ _
  · rw [show nextS s l = colNS s l by unfold nextS; rw [hf]; rfl]; exact i.col hf _
  · rw [show nextS s l = colEndS s l by unfold nextS; rw [hf]; rfl]; exact i.colEnd hf _
  · rw [show nextS s l = defNS s l by unfold nextS; rw [hf]; rfl]; exact i.dfn hf _
  · rw [show nextS s l = defEndS s l by unfold nextS; rw [hf]; rfl]; exact i.defEnd hf _
theorem RI.feed {s : RS} (i : RI s) (l : List Nat) : RI (feedS s l).1 := by
  unfold feedS
  cases hf : s.nx with
  | none => rw [if_pos rfl]; exact i
  | some f =>
    rw [if_neg (fun q => by cases q)]
    split
    · exact i
    · split
      · exact (i.next hf l).fin
      · exact i.next hf l
theorem RI.file {s : RS} (i : RI s) (l : List Nat) : RI (fileS s l).1 := by
  unfold fileS
  split
  · exact i
  · split
    · exact ⟨i.nx, i.l55, i.l77, i.c37, i.c0, i.ok, i.thn, i.lf, i.may⟩
    · exact i
theorem RI.new (c k fl : Int) : RI (newS c k fl []) := by
  have hc : (newS c k fl []).cols = [] := by unfold newS; simp
  have hn : (answerF k = 1 ∧ (newS c k fl []).nx = none) ∨ (¬ answerF k = 1 ∧ ∃ f, (newS c k fl []).nx = some f ∧ f ∈ mayL) := by
    show (answerF k = 1 ∧ firstN k = none) ∨ (¬ answerF k = 1 ∧ ∃ f, firstN k = some f ∧ f ∈ mayL)
    unfold firstN
    by_cases h1 : answerF k = 1
    · exact .inl ⟨h1, if_pos h1⟩
    · refine .inr ⟨h1, ?_⟩
      rw [if_neg h1]
      repeat' split
      all_goals exact ⟨_, rfl, by decide⟩
  have ns : ∀ f, (newS c k fl []).nx = some f → f ∈ mayL := fun f q => by
    rcases hn with ⟨_, e⟩ | ⟨_, g, e, hg⟩
    · rw [e] at q; cases q
    · rw [e] at q; cases q; exact hg
  refine ⟨fun f q => ?_, fun q => absurd (ns _ q) (by decide), fun q => absurd (ns _ q) (by decide), fun q => (by rw [hc]; exact Nat.zero_le _), fun q => hc, ⟨fun x hx => (by rw [hc] at hx; cases hx), fun x hx => (by cases hx)⟩, ⟨Int.le_refl 0, (show (0 : Int) ≤ 65535 by decide)⟩, ⟨Int.le_refl 0, (show (0 : Int) ≤ 65535 by decide)⟩, ?_⟩
  · have := ns f q
    simp only [mayL, List.mem_cons, List.not_mem_nil, or_false] at this
    rcases this with rfl | rfl | rfl | rfl | rfl | rfl | rfl | rfl <;> decide
  · show (¬ answerF k = 1) ↔ _
    rcases hn with ⟨h1, e⟩ | ⟨h1, g, e, hg⟩
    · rw [e]
      exact ⟨fun q => absurd h1 q, fun ⟨f, q, _⟩ => by cases q⟩
    · exact ⟨fun _ => ⟨g, e, hg⟩, fun _ => h1⟩
theorem law_may {s : RS} (i : RI s) (hm : s.may) (hw : ¬ s.wants) {code : Int} (hc : 0 ≤ code ∧ code < 65536) {l : List Nat} (hl : l = errB code) : feedS s l = (s.fin, { PT.z with k := 2, last := True, ec := code, es := [72, 89, 48, 48, 48], et := [110, 111] }, 0) := by
  have hb : ∀ x ∈ l, x < 256 := by rw [hl]; exact errB_ok hc
  have h255 : l = 255 :: (errB code).tail := by rw [hl]; rfl
  have e : errS s l = (s.fin, { PT.z with k := 2, last := True, ec := code, es := [72, 89, 48, 48, 48], et := [110, 111] }, 0) := by
    unfold errS
    rw [errF_read hc hl, if_neg (fun q => q rfl)]
  have l0 : ¬ l.length = 0 := by rw [h255]; simp
  have b0 : byI l 0 = 255 := by rw [h255]; rfl
  have b1 : ¬ byI l 0 = 0 := by rw [b0]; decide
  have f2 : firstF l s.c = 2 := by unfold firstF; rw [if_neg l0, if_neg b1, if_pos b0]
  have ok : ∀ m, okS1 s l m = errS s l := fun m => by unfold okS1; rw [if_neg (by rw [f2]; decide)]
  obtain ⟨f, hf, hfm⟩ := i.may.1 hm
  have hne : ¬ s.nx = none := by rw [hf]; exact fun q => by cases q
  have hn : nextS s l = errS s l := by
    simp only [List.mem_cons, List.not_mem_nil, or_false] at hfm
    rcases hfm with rfl | rfl | rfl | rfl | rfl | rfl | rfl | rfl
    · rw [show nextS s l = okS1 s l False by unfold nextS; rw [hf]; rfl]; exact ok _
    · rw [show nextS s l = eofOrOkS s l by unfold nextS; rw [hf]; rfl]
      unfold eofOrOkS
      rw [if_pos (eofF_err hb h255)]
      exact ok _
    · rw [show nextS s l = textS s l by unfold nextS; rw [hf]; rfl]
      unfold textS
      rw [if_neg l0, if_pos b0]
    · rw [show nextS s l = firstS s l by unfold nextS; rw [hf]; rfl]
      unfold firstS
      rw [if_neg (by rw [f2]; decide), if_pos f2]
    · rw [show nextS s l = prepS s l by unfold nextS; rw [hf]; rfl]
      unfold prepS
      rw [if_pos (.inr b1)]
    · rw [show nextS s l = rowS s l by unfold nextS; rw [hf]; rfl]
      unfold rowS
      rw [if_pos (lastF_err h255)]
    · rw [show nextS s l = errS s l by unfold nextS; rw [hf]; rfl]
    · rw [show nextS s l = okS1 s l True by unfold nextS; rw [hf]; rfl]; exact ok _
  unfold feedS
  rw [if_neg hne, if_neg hw, hn, e, if_neg (fun q => q rfl)]
theorem law_not {s : RS} (i : RI s) (hm : ¬ (s.may ∧ ¬ s.wants)) {l : List Nat} (he : (feedS s l).2.2 = 0) : ¬ (feedS s l).2.1.k = 2 := by
  unfold feedS at he ⊢
  cases hf : s.nx with
  | none => rw [hf, if_pos rfl] at he; cases he
  | some f =>
    rw [hf, if_neg (fun q => by cases q)] at he
    rw [if_neg (fun q => by cases q)]
    by_cases hw : s.wants
    · rw [if_pos hw] at he; cases he
    rw [if_neg hw] at he ⊢
    by_cases hz : (nextS s l).2.2 = 0
    case neg => rw [if_pos hz] at he; exact absurd he hz
    rw [if_neg (fun q => q hz)]
    have hfm : f ∉ mayL := fun q => hm ⟨i.may.2 ⟨f, hf, q⟩, hw⟩
    have hx := i.nx f hf
    simp only [List.mem_cons, List.not_mem_nil, or_false] at hx
    rcases hx with rfl | rfl | rfl | rfl | rfl | rfl | rfl | rfl | rfl | rfl | rfl | rfl
    all_goals first | exact absurd (by decide) hfm | skip
    · rw [show nextS s l = colNS s l by unfold nextS; rw [hf]; rfl] at hz ⊢
      unfold colNS at hz ⊢
      by_cases q : (oneS s l).2 = 0
      · rw [if_neg (fun w => w q)]; show ¬ (5 : Int) = 2; decide
      · rw [if_pos q]; show ¬ (0 : Int) = 2; decide
    · rw [show nextS s l = colEndS s l by unfold nextS; rw [hf]; rfl] at hz ⊢
      unfold colEndS at hz ⊢
      split
      · show ¬ (0 : Int) = 2; decide
      · show ¬ (6 : Int) = 2; decide
    · rw [show nextS s l = defNS s l by unfold nextS; rw [hf]; rfl] at hz ⊢
      unfold defNS at hz ⊢
      by_cases q : (oneS s l).2 = 0
      · rw [if_neg (fun w => w q)]; show ¬ (5 : Int) = 2; decide
      · rw [if_pos q]; show ¬ (0 : Int) = 2; decide
    · rw [show nextS s l = defEndS s l by unfold nextS; rw [hf]; rfl] at hz ⊢
      unfold defEndS at hz ⊢
      split
      · show ¬ (0 : Int) = 2; decide
      · show ¬ (6 : Int) = 2; decide
end
noncomputable section
structure StdL (S : Set0) : Prop extends StdR S where
  lives : ∀ h, Exact S.cfg 6 [] h (bo True)
structure PK (h : H) (lv : V) (ls : List (List Nat)) (cs : List V) : Prop where
  row : RW 27 1 ls.length h lv cs
  each : ∀ i (hi : i < ls.length) (hc : i < cs.length), BS 5 h cs[i] ls[i]
theorem PK.at {h : H} {lv : V} {ls : List (List Nat)} {cs : List V} (a : PK h lv ls cs) (i : Nat) (hi : i < ls.length) : ∃ b o m, ∃ v, lv = .slice b o ls.length m ∧ b < h.nx ∧ rdV (some (1, false)) (h.get b) (o + i) = some v ∧ BS 5 h v ls[i] := by
  have hc : i < cs.length := by rw [a.row.1]; omega
  obtain ⟨b, o, m, hv⟩ := a.row.at (by omega)
  obtain ⟨_, hb, hr, _⟩ := RW.rd (hv ▸ a.row)
  exact ⟨b, o, m, cs[i], hv, hb, hr i 1 hc, a.each i hi hc⟩
theorem eqn_refl : ∀ s : List Nat, eqNats s s = true
  | [] => rfl
  | x :: s => by
    show (Nat.beq x x && eqNats s s) = true
    rw [eqn_refl s]
    simp
theorem eq38 (a : Int) (s t : List Nat) : eqT Try.prog 38 (.agg [.int .u16 a, .str s, .str t]) (.agg [.int .u16 a, .str s, .str t]) = some true := by
  have e : eqT Try.prog 38 (.agg [.int .u16 a, .str s, .str t]) (.agg [.int .u16 a, .str s, .str t]) = (match some (a == a) with
    | some true => (match some (eqNats s s) with
      | some true => (match some (eqNats t t) with
        | some true => some true
        | r => r)
      | r => r)
    | r => r) := by kernel_rfl
  rw [e, eqn_refl, eqn_refl]
  simp
theorem neq38 (c : Bool) (a : Int) (s t : List Nat) : binV Try.prog .neq 38 c (.agg [.int .u16 a, .str s, .str t]) (.agg [.int .u16 a, .str s, .str t]) = some (bo False) := by
  show eqOpV Try.prog .neq 38 _ _ = _
  unfold eqOpV
  rw [eq38]
  simp [bo]
theorem tk8 (a1 a2 a3 a4 a5 a6 a7 a8 a9 b1 b2 b3 b4 b5 b6 b7 b8 : V) : List.take 3 (List.drop 8 [a1, a2, a3, a4, a5, a6, a7, a8, a9, b1, b2, b3, b4, b5, b6, b7, b8]) = [a9, b1, b2] := rfl
theorem np_eq (t : Nat) : binV Try.prog .eql 40 (constO (.tmp t) || constO (.const (Value.pointer none))) .nilptr .nilptr = some (bo True) := by
  rw [show bo True = .bool true by simp [bo]]
  rfl
variable {S : Set0} (hS : StdL S)
include hS
theorem small_spec {lv : V} {ls : List (List Nat)} {cs : List V} {h : H} (a : PK h lv ls cs) (hl : ls.length < 2 ^ 63) : Pure S.cfg 22 [lv] h fun w _ => ∃ p : Prop, w = bo p ∧ (p → (∀ i (hi : i < ls.length), ls[i].length ≤ 5000) ∧ ls.length ≤ 400) := by
  refine into Try.f22 _ Try.func22 (hS.ownR _ (by decide)) rfl rfl (by kernel_rfl) (by kernel_rfl) ?_
  have a1 := a.row.len 27
  simp +contextual (disch := first | (simp only [fq]; done) | omega | (simp only [Knx]; omega) | (apply Nat.le_antisymm <;> simp only [Knx] <;> omega) | fail) only [wpy, fW, reduceLE, reduceLT, reduceLeDiff, UInt8.reduceToNat, ↓reduceIte, reduceEqDiff, reduceAdd, reduceCtorEq, reduceToNat, Try.f22]
  refine run_loop (fun k env h' => ∃ i : Nat, k = ls.length - i ∧ i ≤ ls.length ∧ h' = h ∧ env 0 = lv ∧ env 3 = .int .i64 i ∧ ∀ j (hj : j < ls.length), j < i → ls[j].length ≤ 5000) ls.length ⟨0, ?_⟩ ?_
  · simp +contextual (disch := first | (simp only [fq]; done) | omega | (simp only [Knx]; omega) | (apply Nat.le_antisymm <;> simp only [Knx] <;> omega) | fail) only [wpy, fW, reduceLE, reduceLT, reduceLeDiff, UInt8.reduceToNat, ↓reduceIte, reduceEqDiff, reduceAdd, reduceCtorEq, reduceToNat]
    exact ⟨(Nat.sub_zero _).symm, fun j _ q => by omega⟩
  rintro k env h' ⟨i, rfl, hi, rfl, e0, e3, hk⟩
  by_cases hin : i < ls.length
  · have hin' : (i : Int) < ls.length := by omega
    obtain ⟨b, o, m, v, hv, hb, hr, bs⟩ := a.at i hin
    have a2 := bs.len 5
    have w1 : IntKind.i64.wrap ((i : Int) + 1) = ((i + 1 : Nat) : Int) := i64_in _ (by omega)
    by_cases hs : 5000 < ls[i].length
    · have hs' : (5000 : Int) < ls[i].length := by omega
      simp +contextual (disch := first | (simp only [fq]; done) | omega | (simp only [Knx]; omega) | (apply Nat.le_antisymm <;> simp only [Knx] <;> omega) | fail) only [wpy, fW, reduceLE, reduceLT, reduceLeDiff, UInt8.reduceToNat, ↓reduceIte, reduceEqDiff, reduceAdd, reduceCtorEq, reduceToNat, Try.f22, e0, e3, a1, hin, hin', hv, hr, a2, hs, hs']
      exact ⟨Ext.refl _, False, rfl, fun q => q.elim⟩
    · have hs' : ¬ (5000 : Int) < ls[i].length := by omega
      simp +contextual (disch := first | (simp only [fq]; done) | omega | (simp only [Knx]; omega) | (apply Nat.le_antisymm <;> simp only [Knx] <;> omega) | fail) only [wpy, fW, reduceLE, reduceLT, reduceLeDiff, UInt8.reduceToNat, ↓reduceIte, reduceEqDiff, reduceAdd, reduceCtorEq, reduceToNat, Try.f22, e0, e3, a1, hin, hin', hv, hr, a2, hs, hs', w1]
      refine ⟨ls.length - (i + 1), by omega, i + 1, rfl, by omega, rfl, fun j hj hji => ?_⟩
      rcases (by omega : j < i ∨ j = i) with q | rfl
      · exact hk j hj q
      · omega
  obtain rfl : i = ls.length := by omega
  simp +contextual (disch := first | (simp only [fq]; done) | omega | (simp only [Knx]; omega) | (apply Nat.le_antisymm <;> simp only [Knx] <;> omega) | fail) only [wpy, fW, reduceLE, reduceLT, reduceLeDiff, UInt8.reduceToNat, ↓reduceIte, reduceEqDiff, reduceAdd, reduceCtorEq, reduceToNat, Try.f22, e0, e3, a1, hin]
  exact ⟨Ext.refl _, _, rfl, fun q => ⟨fun j hj => hk j hj hj, q⟩⟩
theorem err_law {X : RX} {d : List Nat} (c k fl code : Int) {lv : V} {ls : List (List Nat)} {cs : List V} {h : H} (b : BS 5 h X.x7 d) (al : PK h lv ls cs) (hc : 0 ≤ code ∧ code < 65536) (hls : ls.length < 2 ^ 63) : Pure S.cfg 5 [.int .u32 c, .agg (cmdC X k fl), lv, .int .u16 code] h fun w _ => w = bo True := by
  refine into Try.f5 _ Try.func5 (hS.ownR _ (by decide)) rfl rfl (by kernel_rfl) (by kernel_rfl) ?_
  have hX := b.cell
  have x1 := hX.1
  have x2 := hX.2
  have hlen := al.row.len 27
  have ck := fun h b => check_spec hS.toStdR (X := X) (d := d) (h := h) b k fl
  have nw := fun h b => new_spec hS.toStdR (X := X) (d := d) (h := h) b c k fl
  unfold cmdC at ck nw ⊢
  simp +contextual (disch := first | (simp only [fq]; done) | omega | (simp only [Knx]; omega) | (apply Nat.le_antisymm <;> simp only [Knx] <;> omega) | fail) only [wpy, fW, reduceLE, reduceLT, reduceLeDiff, UInt8.reduceToNat, ↓reduceIte, reduceEqDiff, reduceAdd, reduceCtorEq, reduceToNat, Try.f5, x1, x2]
  refine callF_exact (hS.lives _) ?_
  simp +contextual (disch := first | (simp only [fq]; done) | omega | (simp only [Knx]; omega) | (apply Nat.le_antisymm <;> simp only [Knx] <;> omega) | fail) only [wpy, fW, reduceLE, reduceLT, reduceLeDiff, UInt8.reduceToNat, ↓reduceIte, reduceEqDiff, reduceAdd, reduceCtorEq, reduceToNat, Try.f5]
  generalize hhA : H.push h _ = hA
  have hxA : Ext h hA := by rw [← hhA]; exact (Ext.refl h).push _
  have nA : hA.nx = h.nx + 1 := by rw [← hhA]; rfl
  have gA : hA.get h.nx = some (.cells [.int .u8 k, .str X.x1, .int .u32 X.x2, .int .u16 X.x3, .int .u8 fl, .int .u32 X.x5, .int .u16 X.x6, X.x7] 29 false) := by rw [← hhA]; exact push_eq rfl
  clear hhA
  have alx : ∀ {h' : H}, Ext h h' → PK h' lv ls cs := fun {h'} x => ⟨al.row.ext x, fun i hi hc => (al.each i hi hc).ext x⟩
  refine callF_pure (small_spec hS (alx hxA) hls) ?_
  rintro _ h1 hx1 ⟨p, rfl, hp⟩
  have n1 := hx1.1
  have g1 := (hx1.2 _ (by omega)).trans gA
  have hxh1 := hxA.trans hx1
  by_cases hq : p
  case neg =>
    simp +contextual (disch := first | (simp only [fq]; done) | omega | (simp only [Knx]; omega) | (apply Nat.le_antisymm <;> simp only [Knx] <;> omega) | fail) only [wpy, fW, reduceLE, reduceLT, reduceLeDiff, UInt8.reduceToNat, ↓reduceIte, reduceEqDiff, reduceAdd, reduceCtorEq, reduceToNat, Try.f5, hq]
    exact hxh1
  obtain ⟨hs5, hs4⟩ := hp hq
  have hq' := eq_true hq
  simp +contextual (disch := first | (simp only [fq]; done) | omega | (simp only [Knx]; omega) | (apply Nat.le_antisymm <;> simp only [Knx] <;> omega) | fail) only [wpy, fW, reduceLE, reduceLT, reduceLeDiff, UInt8.reduceToNat, ↓reduceIte, reduceEqDiff, reduceAdd, reduceCtorEq, reduceToNat, Try.f5, hq', g1]
  refine callF_pure (ck _ (b.ext hxh1)) ?_
  rintro _ h2 hx2 rfl
  have n2 := hx2.1
  have hxh2 := hxh1.trans hx2
  by_cases hk : cmdOk X k fl d.length
  case neg =>
    rw [if_neg hk]
    simp +contextual (disch := first | (simp only [fq]; done) | omega | (simp only [Knx]; omega) | (apply Nat.le_antisymm <;> simp only [Knx] <;> omega) | fail) only [wpy, fW, reduceLE, reduceLT, reduceLeDiff, UInt8.reduceToNat, ↓reduceIte, reduceEqDiff, reduceAdd, reduceCtorEq, reduceToNat, Try.f5, Int.reduceEq]
    exact hxh2
  rw [if_pos hk]
  have g2 := (hx2.2 _ (by omega)).trans g1
  simp +contextual (disch := first | (simp only [fq]; done) | omega | (simp only [Knx]; omega) | (apply Nat.le_antisymm <;> simp only [Knx] <;> omega) | fail) only [wpy, fW, reduceLE, reduceLT, reduceLeDiff, UInt8.reduceToNat, ↓reduceIte, reduceEqDiff, reduceAdd, reduceCtorEq, reduceToNat, Try.f5, Int.reduceEq]
  generalize hhB : H.put (H.push h2 _) h2.nx _ = hB
  have hxB : Ext h2 hB := by rw [← hhB]; exact ((Ext.refl h2).push _).put (Nat.le_refl _) _
  have nB : hB.nx = h2.nx + 1 := by rw [← hhB]; rfl
  have gB : hB.get h2.nx = some (.cells [.int .u16 code, .str [72, 89, 48, 48, 48], .str [110, 111]] 38 false) := by rw [← hhB]; exact put_eq rfl
  clear hhB
  refine ⟨.inr (by omega), callF_pure (aperr_spec hS.toStdR code hc _) ?_⟩
  rintro _ h3 hx3 ⟨bv, rfl, bb, bo3⟩
  have n3 := hx3.1
  have hxh3 := (hxh2.trans hxB).trans hx3
  have gx3 := (hx3.2 _ (by omega)).trans gB
  have gc3 := ((hx3.2 h.nx (by omega)).trans (hxB.2 h.nx (by omega))).trans g2
  simp +contextual (disch := first | (simp only [fq]; done) | omega | (simp only [Knx]; omega) | (apply Nat.le_antisymm <;> simp only [Knx] <;> omega) | fail) only [wpy, fW, reduceLE, reduceLT, reduceLeDiff, UInt8.reduceToNat, ↓reduceIte, reduceEqDiff, reduceAdd, reduceCtorEq, reduceToNat, Try.f5, Int.reduceEq]
  refine run_loop (fun m env h' => ∃ n : Nat, m = 41 - n ∧ n ≤ 41 ∧ env 0 = .int .u32 c ∧ env 2 = lv ∧ env 5 = .ptr h.nx 0 ∧ env 9 = .ptr h2.nx 0 ∧ env 10 = bv ∧ env 12 = .int .i64 n ∧ Ext h3 h') 41 ⟨0, ?_⟩ ?_
  · simp +contextual (disch := first | (simp only [fq]; done) | omega | (simp only [Knx]; omega) | (apply Nat.le_antisymm <;> simp only [Knx] <;> omega) | fail) only [wpy, fW, reduceLE, reduceLT, reduceLeDiff, UInt8.reduceToNat, ↓reduceIte, reduceEqDiff, reduceAdd, reduceCtorEq, reduceToNat]
    exact Ext.refl _
  rintro m env h4 ⟨n, rfl, hn, e0, e2, e5, e9, e10, e12, hx4⟩
  have n4 := hx4.1
  have hxh4 := hxh3.trans hx4
  by_cases hin : n ≤ ls.length ∧ n ≤ 40
  case neg =>
    by_cases hl1 : n ≤ ls.length
    · have hl2 : ¬ n ≤ 40 := fun q => hin ⟨hl1, q⟩
      have hl2' : ¬ (n : Int) ≤ 40 := by omega
      simp +contextual (disch := first | (simp only [fq]; done) | omega | (simp only [Knx]; omega) | (apply Nat.le_antisymm <;> simp only [Knx] <;> omega) | fail) only [wpy, fW, reduceLE, reduceLT, reduceLeDiff, UInt8.reduceToNat, ↓reduceIte, reduceEqDiff, reduceAdd, reduceCtorEq, reduceToNat, Try.f5, e0, e2, e5, e9, e10, e12, hlen, hl1, hl2, hl2']
      exact hxh4
    · simp +contextual (disch := first | (simp only [fq]; done) | omega | (simp only [Knx]; omega) | (apply Nat.le_antisymm <;> simp only [Knx] <;> omega) | fail) only [wpy, fW, reduceLE, reduceLT, reduceLeDiff, UInt8.reduceToNat, ↓reduceIte, reduceEqDiff, reduceAdd, reduceCtorEq, reduceToNat, Try.f5, e0, e2, e5, e9, e10, e12, hlen, hl1]
      exact hxh4
  have hl1 := hin.1
  have hl2 := hin.2
  have hl2' : (n : Int) ≤ 40 := by omega
  have gc4 := (hx4.2 h.nx (by omega)).trans gc3
  have gx4 := (hx4.2 h2.nx (by omega)).trans gx3
  have b4 : BS 5 h4 bv (errB code) := bb.ext hx4
  simp +contextual (disch := first | (simp only [fq]; done) | omega | (simp only [Knx]; omega) | (apply Nat.le_antisymm <;> simp only [Knx] <;> omega) | fail) only [wpy, fW, reduceLE, reduceLT, reduceLeDiff, UInt8.reduceToNat, ↓reduceIte, reduceEqDiff, reduceAdd, reduceCtorEq, reduceToNat, Try.f5, e0, e2, e5, e9, e10, e12, hlen, hl1, hl2, hl2', gc4]
  refine callF_pure (nw _ (b.ext hxh4)) ?_
  rintro w5 h5 hx5 ⟨r1, r2⟩
  have n5 := hx5.1
  have hxh5 := hxh4.trans hx5
  by_cases hnew : newOk X c k fl d.length
  case neg =>
    rw [r2 hnew]
    simp +contextual (disch := first | (simp only [fq]; done) | omega | (simp only [Knx]; omega) | (apply Nat.le_antisymm <;> simp only [Knx] <;> omega) | fail) only [wpy, fW, reduceLE, reduceLT, reduceLeDiff, UInt8.reduceToNat, ↓reduceIte, reduceEqDiff, reduceAdd, reduceCtorEq, reduceToNat, Try.f5, Int.reduceEq, np_eq]
    exact hxh5
  obtain ⟨r, rfl, f5⟩ := r1 hnew
  have lt5 := f5.rr.lt
  simp +contextual (disch := first | (simp only [fq]; done) | omega | (simp only [Knx]; omega) | (apply Nat.le_antisymm <;> simp only [Knx] <;> omega) | fail) only [wpy, fW, reduceLE, reduceLT, reduceLeDiff, UInt8.reduceToNat, ↓reduceIte, reduceEqDiff, reduceAdd, reduceCtorEq, reduceToNat, Try.f5, Int.reduceEq]
  have okn : ∀ j, h4.nx ≤ j → fresh h.nx nil1 j := fun j hj => by rw [fresh_def]; exact .inl (by omega)
  have okr : ∀ j, j = r → fresh h.nx nil1 j := fun j hj => by rw [fresh_def]; exact .inl (by omega)
  refine run_loop (fun m env h' => ∃ i : Nat, m = n - i ∧ i ≤ n ∧ env 0 = .int .u32 c ∧ env 2 = lv ∧ env 5 = .ptr h.nx 0 ∧ env 9 = .ptr h2.nx 0 ∧ env 10 = bv ∧ env 12 = .int .i64 n ∧ env 13 = .ptr r 0 ∧ env 15 = .int .i64 i ∧ Stp0 h4.nx h5 h' ∧ ∃ s cv tv, RI s ∧ RF X h4.nx r s cv tv h') n ⟨0, ?_⟩ ?_
  · simp +contextual (disch := first | (simp only [fq]; done) | omega | (simp only [Knx]; omega) | (apply Nat.le_antisymm <;> simp only [Knx] <;> omega) | fail) only [wpy, fW, reduceLE, reduceLT, reduceLeDiff, UInt8.reduceToNat, ↓reduceIte, reduceEqDiff, reduceAdd, reduceCtorEq, reduceToNat, e0, e2, e5, e9, e10, e12]
    exact ⟨(Nat.sub_zero _).symm, ⟨Nat.le_refl _, fun _ _ => rfl⟩, _, _, _, RI.new c k fl, f5⟩
  rintro m env2 h6 ⟨i, rfl, hi, e0, e2, e5, e9, e10, e12, e13, e15, st6, s, cv, tv, ri, rf⟩
  have n6 := st6.1
  have hx6 : Ext h4 h6 := ⟨by omega, fun j hj => by rw [st6.2 j hj, hx5.2 j hj]⟩
  have hxh6 := hxh4.trans hx6
  by_cases hii : i < n
  · have hii' : (i : Int) < n := by omega
    obtain ⟨pb, po, pm, pv, hpv, hpb, hpr, bs⟩ := al.at i (by omega)
    have hbl := hs5 i (by omega)
    simp +contextual (disch := first | (simp only [fq]; done) | omega | (simp only [Knx]; omega) | (apply Nat.le_antisymm <;> simp only [Knx] <;> omega) | fail) only [wpy, fW, reduceLE, reduceLT, reduceLeDiff, UInt8.reduceToNat, ↓reduceIte, reduceEqDiff, reduceAdd, reduceCtorEq, reduceToNat, Try.f5, e0, e2, e5, e9, e10, e12, e13, e15, hii, hii']
    refine callF_exact (wants_spec hS.toStdR rf.rr) ?_
    simp +contextual (disch := first | (simp only [fq]; done) | omega | (simp only [Knx]; omega) | (apply Nat.le_antisymm <;> simp only [Knx] <;> omega) | fail) only [wpyr, fW, reduceLE, reduceLT, reduceLeDiff, UInt8.reduceToNat, ↓reduceIte, reduceEqDiff, reduceAdd, reduceCtorEq, reduceToNat, Try.f5, e0, e2, e5, e9, e10, e12, e13, e15]
    refine run_cut (fun env' h' => env' 0 = .int .u32 c ∧ env' 2 = lv ∧ env' 5 = .ptr h.nx 0 ∧ env' 9 = .ptr h2.nx 0 ∧ env' 10 = bv ∧ env' 12 = .int .i64 n ∧ env' 13 = .ptr r 0 ∧ env' 15 = .int .i64 i ∧ Stp0 h4.nx h5 h' ∧ ∃ s cv tv, RI s ∧ RF X h4.nx r s cv tv h') ?_ ?_
    · by_cases hw : s.wants
      · have hw' := eq_true hw
        simp +contextual (disch := first | (simp only [fq]; done) | omega | (simp only [Knx]; omega) | (apply Nat.le_antisymm <;> simp only [Knx] <;> omega) | fail) only [wpy, fW, reduceLE, reduceLT, reduceLeDiff, UInt8.reduceToNat, ↓reduceIte, reduceEqDiff, reduceAdd, reduceCtorEq, reduceToNat, Try.f5, e0, e2, e5, e9, e10, e12, e13, e15, hw']
        refine callF_of (file_spec hS.toStdR rf.rr (BS.nil 5 h6)) okr ?_
        rintro _ h7 ⟨rfl, p7⟩
        have ct : (fileS s []).1.cols = s.cols ∧ (fileS s []).1.told = s.told := by
          unfold fileS
          split
          · exact ⟨rfl, rfl⟩
          · first | exact ⟨rfl, rfl⟩ | (split <;> exact ⟨rfl, rfl⟩)
        simp +contextual (disch := first | (simp only [fq]; done) | omega | (simp only [Knx]; omega) | (apply Nat.le_antisymm <;> simp only [Knx] <;> omega) | fail) only [wpy, fW, reduceLE, reduceLT, reduceLeDiff, UInt8.reduceToNat, ↓reduceIte, reduceEqDiff, reduceAdd, reduceCtorEq, reduceToNat, Try.f5, e0, e2, e5, e9, e10, e12, e13, e15]
        exact ⟨st6.trans (Stp0.but p7.2 (by omega) lt5.1), _, cv, tv, ri.file [], rf.step p7 ct.1 ct.2⟩
      · simp +contextual (disch := first | (simp only [fq]; done) | omega | (simp only [Knx]; omega) | (apply Nat.le_antisymm <;> simp only [Knx] <;> omega) | fail) only [wpy, fW, reduceLE, reduceLT, reduceLeDiff, UInt8.reduceToNat, ↓reduceIte, reduceEqDiff, reduceAdd, reduceCtorEq, reduceToNat, Try.f5, e0, e2, e5, e9, e10, e12, e13, e15, hw]
        exact ⟨st6, s, cv, tv, ri, rf⟩
    rintro env3 h7 ⟨e0, e2, e5, e9, e10, e12, e13, e15, st7, s7, cv7, tv7, ri7, rf7⟩
    have n7 := st7.1
    have hx7 : Ext h4 h7 := ⟨by omega, fun j hj => by rw [st7.2 j hj, hx5.2 j hj]⟩
    have hxh7 := hxh4.trans hx7
    have hpr7 : rdV (some (1, false)) (h7.get pb) (po + i) = some pv := by rw [hxh7.2 pb hpb]; exact hpr
    have hil : i < ls.length := by omega
    have hil' : (i : Int) < ls.length := by omega
    have w1 : IntKind.i64.wrap ((i : Int) + 1) = ((i + 1 : Nat) : Int) := i64_in _ (by omega)
    simp +contextual (disch := first | (simp only [fq]; done) | omega | (simp only [Knx]; omega) | (apply Nat.le_antisymm <;> simp only [Knx] <;> omega) | fail) only [wpy, fW, reduceLE, reduceLT, reduceLeDiff, UInt8.reduceToNat, ↓reduceIte, reduceEqDiff, reduceAdd, reduceCtorEq, reduceToNat, Try.f5, e0, e2, e5, e9, e10, e12, e13, e15, hpv, hpr7, hil, hil']
    refine callF_of (feed_spec hS.toStdR rf7 ri7 (bs.ext hxh7) (by omega) (bs.off (by have := hxh4.1; omega))) okn ?_
    rintro w8 h8 ⟨cv8, tv8, pr8, rf8, st8, fr8⟩
    simp +contextual (disch := first | (simp only [fq]; done) | omega | (simp only [Knx]; omega) | (apply Nat.le_antisymm <;> simp only [Knx] <;> omega) | fail) only [wpy, fW, reduceLE, reduceLT, reduceLeDiff, UInt8.reduceToNat, ↓reduceIte, reduceEqDiff, reduceAdd, reduceCtorEq, reduceToNat, Try.f5, e0, e2, e5, e9, e10, e12, e13, e15, w1]
    exact ⟨n - (i + 1), by omega, i + 1, rfl, by omega, hpv, rfl, st7.trans st8, _, cv8, tv8, ri7.feed _, rf8⟩
  obtain rfl : i = n := by omega
  have b6 : BS 5 h6 bv (errB code) := b4.ext hx6
  simp +contextual (disch := first | (simp only [fq]; done) | omega | (simp only [Knx]; omega) | (apply Nat.le_antisymm <;> simp only [Knx] <;> omega) | fail) only [wpy, fW, reduceLE, reduceLT, reduceLeDiff, UInt8.reduceToNat, ↓reduceIte, reduceEqDiff, reduceAdd, reduceCtorEq, reduceToNat, Try.f5, e0, e2, e5, e9, e10, e12, e13, e15, hii]
  refine callF_exact (may_spec hS.toStdR rf.rr) ?_
  simp +contextual (disch := first | (simp only [fq]; done) | omega | (simp only [Knx]; omega) | (apply Nat.le_antisymm <;> simp only [Knx] <;> omega) | fail) only [wpy, fW, reduceLE, reduceLT, reduceLeDiff, UInt8.reduceToNat, ↓reduceIte, reduceEqDiff, reduceAdd, reduceCtorEq, reduceToNat, Try.f5, e0, e2, e5, e9, e10, e12, e13, e15]
  refine callF_of (feed_spec hS.toStdR rf ri b6 (show (11 : Nat) < 2 ^ 28 by decide) (b4.off lt5.1)) okn ?_
  rintro w8 h8 ⟨cv8, tv8, pr8, rf8, st8, fr8⟩
  have n8 := st8.1
  have gx8 : h8.get h2.nx = some (.cells [.int .u16 code, .str [72, 89, 48, 48, 48], .str [110, 111]] 38 false) := by rw [st8.2 _ (by omega), hx6.2 _ (by omega)]; exact gx4
  have hx8 : Ext h4 h8 := ⟨by omega, fun j hj => by rw [st8.2 j hj, hx6.2 j hj]⟩
  obtain ⟨y, rfl, by8, ho8⟩ := pr8
  obtain ⟨yc1, yc2⟩ := by8.cell
  by_cases hm : s.may ∧ ¬ s.wants
  · have q := law_may ri hm.1 hm.2 hc (l := errB code) rfl
    rw [q] at rf8 by8 ⊢
    have hm' := eq_true hm
    unfold PT.cells
    have hxC : ∀ o1 o2, Ext h8 ((h8.push o1).put h8.nx o2) := fun o1 o2 => ((Ext.refl h8).push o1).put (Nat.le_refl _) o2
    dsimp only at rf8
    have ov : ∀ o1 o2, Exact S.cfg 15 [.ptr r 0] ((h8.push o1).put h8.nx o2) (bo True) := fun o1 o2 => by
      have z := over_sp hS.toStdR (rf8.rr.ext (hxC o1 o2))
      have e : bo (s.fin.nx = none) = bo True := bo_iff ⟨fun _ => trivial, fun _ => rfl⟩
      rw [e] at z
      exact z
    simp +contextual (disch := first | (simp only [fq]; done) | omega | (simp only [Knx]; omega) | (apply Nat.le_antisymm <;> simp only [Knx] <;> omega) | fail) only [wpy, fW, reduceLE, reduceLT, reduceLeDiff, UInt8.reduceToNat, ↓reduceIte, reduceEqDiff, reduceAdd, reduceCtorEq, reduceToNat, Try.f5, e0, e2, e5, e9, e10, e12, e13, e15, hm', yc1, yc2, gx8, tk8, neq38]
    refine ⟨.inr (by omega), callF_exact (ov _ _) ?_⟩
    simp +contextual (disch := first | (simp only [fq]; done) | omega | (simp only [Knx]; omega) | (apply Nat.le_antisymm <;> simp only [Knx] <;> omega) | fail) only [wpy, fW, reduceLE, reduceLT, reduceLeDiff, UInt8.reduceToNat, ↓reduceIte, reduceEqDiff, reduceAdd, reduceCtorEq, reduceToNat, Try.f5, e0, e2, e5, e9, e10, e12, e13, e15, hm']
    have hx9 : ∀ o1 o2, Ext h3 ((h8.push o1).put h8.nx o2) := fun o1 o2 => ((hx4.trans hx8).push o1).put (by omega) o2
    exact ⟨41 - (i + 1), by omega, i + 1, rfl, by omega, rfl, hx9 _ _⟩
  · have q := fun he => law_not ri hm (l := errB code) he
    unfold PT.cells
    simp +contextual (disch := first | (simp only [fq]; done) | omega | (simp only [Knx]; omega) | (apply Nat.le_antisymm <;> simp only [Knx] <;> omega) | fail) only [wpy, fW, reduceLE, reduceLT, reduceLeDiff, UInt8.reduceToNat, ↓reduceIte, reduceEqDiff, reduceAdd, reduceCtorEq, reduceToNat, Try.f5, e0, e2, e5, e9, e10, e12, e13, e15, hm, yc1, yc2, gx8]
    have hx9 : ∀ o1 o2, Ext h3 ((h8.push o1).put h8.nx o2) := fun o1 o2 => ((hx4.trans hx8).push o1).put (by omega) o2
    exact ⟨.inr (by omega), fun w => absurd w.2 (q w.1), fun _ => ⟨41 - (i + 1), by omega, i + 1, rfl, by omega, rfl, hx9 _ _⟩⟩
end
end Go.Proofs.Ytinbhlejofgomaa
