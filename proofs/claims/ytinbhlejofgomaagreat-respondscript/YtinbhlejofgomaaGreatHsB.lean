/-
  Several texts of one walk, joined.
-/
import Derived.Test.YtinbhlejofgomaaGreatHsA
set_option linter.unusedSimpArgs false
set_option linter.unusedVariables false
set_option linter.unusedSectionVars false
set_option linter.defProp false
set_option maxRecDepth 20000
set_option maxHeartbeats 2000000
namespace Go.Proofs.YtinbhlejofgomaaGreat
open Go.Proofs Go.Lx Go.Wx Go.IntWalk
noncomputable section
def shapeF (t : Int) : Int := if t = 1 ∨ t = 9 ∨ t = 14 ∨ t = 31 then 0 else if t = 2 ∨ t = 3 ∨ t = 22 then 1 else if t = 12 then 2 else if t = 23 then 3 else if t = 24 then 4 else if t = 25 ∨ t = 26 then 5 else if t = 27 then 6 else if t = 28 then 7 else 8
def answerF (t : Int) : Int := if t = 1 ∨ t = 24 ∨ t = 25 then 1 else if t = 2 ∨ t = 14 ∨ t = 26 ∨ t = 31 ∨ t = 12 then 2 else if t = 27 then 3 else if t = 9 then 4 else if t = 3 ∨ t = 23 then 5 else if t = 22 then 6 else if t = 28 then 7 else if t = 17 then 8 else 9
def fileS (s : RS) (l : List Nat) : RS × Int := if s.nx = none then (s, 9) else @ite _ s.wants (Classical.propDecidable _) ({ s with wants := 0 < l.length }, 0) (s, 6)
variable {S : Set0} (hS : StdR S)
include hS
theorem wants_spec {X : RX} {n0 r : Nat} {s : RS} {cv tv : V} {h : H} (a : RR X n0 r s cv tv h) : Exact S.cfg 15 [.ptr r 0] h (bo s.wants) := by
 refine into Tryz.f15 _ Tryz.func15 (hS.ownR _ (by decide)) rfl rfl (by kernel_rfl) (by kernel_rfl) ?_
 have g := a.get
 unfold rsC at g
 refine ww1 @Tryz.f15.eq_1 ?_
 refine callF_exact (none_spec hS a) ?_
 exact wv1 g
theorem over_sp {X : RX} {n0 r : Nat} {s : RS} {cv tv : V} {h : H} (a : RR X n0 r s cv tv h) : Exact S.cfg 17 [.ptr r 0] h (bo (s.nx = none)) := by
 refine into Tryz.f17 _ Tryz.func17 (hS.ownR _ (by decide)) rfl rfl (by kernel_rfl) (by kernel_rfl) ?_
 have g := a.get
 unfold rsC at g
 refine ww1 @Tryz.f17.eq_1 ?_
 refine callF_exact (none_spec hS a) ?_
 cases hf : s.nx with
 | none =>
   rw [hf] at g
   unfold fnV at g
   exact wv1 (cj g nf_none)
 | some f =>
   rw [hf] at g
   unfold fnV at g
   rw [show ((some f : Option FuncId) = none) = False by simp]
   exact wv1 (cj g nf_some)
theorem may_spec {X : RX} {n0 r : Nat} {s : RS} {cv tv : V} {h : H} (a : RR X n0 r s cv tv h) : Exact S.cfg 19 [.ptr r 0] h (bo (s.may ∧ ¬ s.wants)) := by
 refine into Tryz.f19 _ Tryz.func19 (hS.ownR _ (by decide)) rfl rfl (by kernel_rfl) (by kernel_rfl) ?_
 have g := a.get
 unfold rsC at g
 refine ww1 @Tryz.f19.eq_1 ?_
 refine callF_exact (none_spec hS a) ?_
 by_cases hm : s.may
 ·have hm' := eq_true hm
  exact wv1 (cj g hm')
 ·exact wv1 (cj g hm)
theorem file_spec {X : RX} {n0 r : Nat} {s : RS} {cv tv v : V} {l : List Nat} {h : H} (a : RR X n0 r s cv tv h) (b : BS 5 h v l) : callW S.cfg (· = r) 10 [.ptr r 0, v] h fun w h' => w = .int .i64 (fileS s l).2 ∧ RP X n0 r (fileS s l).1 cv tv h h' := by
 refine into Tryz.f10 _ Tryz.func10 (hS.ownR _ (by decide)) rfl rfl (by kernel_rfl) (by kernel_rfl) ?_
 have g := a.get
 unfold rsC at g
 have a1 := b.len 5
 refine ww1 @Tryz.f10.eq_1 ?_
 refine callF_exact (none_spec hS a) ?_
 unfold fileS
 cases hf : s.nx with
 | none =>
   rw [hf] at g
   unfold fnV at g
   rw [if_pos rfl]
   refine ww1 (cj g nf_none) ?_
   exact RP.same a (Ext.refl h)
 | some f =>
   rw [if_neg (fun q => by cases q)]
   by_cases hw : s.wants
   ·rw [if_pos hw]
    have hw' := eq_true hw
    rw [hf] at g
    unfold fnV at g
    refine ww1 (cj g <| cj nf_some <| cj hw' a1) ?_
    exact ⟨a.put (s' := { s with nx := some f, wants := 0 < l.length }) rfl, (But.refl r h).put _⟩
   ·rw [if_neg hw]
    rw [hf] at g
    unfold fnV at g
    refine ww1 (cj g <| cj nf_some hw) ?_
    exact RP.same a (Ext.refl h)
theorem shape_spec (t : Int) (h : H) : Pure S.cfg 97 [.int .u8 t] h fun v _ => v = .int .i64 (shapeF t) := by
 refine into Tryz.f97 _ Tryz.func97 (hS.ownR _ (by decide)) rfl rfl (by kernel_rfl) (by kernel_rfl) ?_
 refine wr1 @Tryz.f97.eq_1 ?_
 by_cases c1 : t = 1
 ·refine cond_yes (p := t = 1) (by exact wv0) c1 ?_
  refine wr0 ?_
  refine cond_yes (p := t = 1) (by exact wv0) c1 ?_
  refine ww0 ?_
  exact ⟨Ext.refl _, by subst c1; rfl⟩
 refine cond_no (p := t = 1) (by exact wv0) c1 ?_
 refine wr0 ?_
 by_cases c9 : t = 9
 ·refine cond_yes (p := t = 9) (by exact wv0) c9 ?_
  refine wr0 ?_
  refine cond_yes (p := t = 9) (by exact wv0) c9 ?_
  refine ww0 ?_
  exact ⟨Ext.refl _, by subst c9; rfl⟩
 refine cond_no (p := t = 9) (by exact wv0) c9 ?_
 refine wr0 ?_
 by_cases c14 : t = 14
 ·refine cond_yes (p := t = 14) (by exact wv0) c14 ?_
  refine wr0 ?_
  refine cond_yes (p := t = 14) (by exact wv0) c14 ?_
  refine ww0 ?_
  exact ⟨Ext.refl _, by subst c14; rfl⟩
 refine cond_no (p := t = 14) (by exact wv0) c14 ?_
 refine wr0 ?_
 by_cases c31 : t = 31
 ·refine cond_yes (p := t = 31) (by exact wv0) c31 ?_
  refine ww0 ?_
  exact ⟨Ext.refl _, by subst c31; rfl⟩
 refine cond_no (p := t = 31) (by exact wv0) c31 ?_
 refine wr0 ?_
 by_cases c2 : t = 2
 ·refine cond_yes (p := t = 2) (by exact wv0) c2 ?_
  refine wr0 ?_
  refine cond_yes (p := t = 2) (by exact wv0) c2 ?_
  refine ww0 ?_
  exact ⟨Ext.refl _, by subst c2; rfl⟩
 refine cond_no (p := t = 2) (by exact wv0) c2 ?_
 refine wr0 ?_
 by_cases c3 : t = 3
 ·refine cond_yes (p := t = 3) (by exact wv0) c3 ?_
  refine wr0 ?_
  refine cond_yes (p := t = 3) (by exact wv0) c3 ?_
  refine ww0 ?_
  exact ⟨Ext.refl _, by subst c3; rfl⟩
 refine cond_no (p := t = 3) (by exact wv0) c3 ?_
 refine wr0 ?_
 by_cases c22 : t = 22
 ·refine cond_yes (p := t = 22) (by exact wv0) c22 ?_
  refine ww0 ?_
  exact ⟨Ext.refl _, by subst c22; rfl⟩
 refine cond_no (p := t = 22) (by exact wv0) c22 ?_
 refine wr0 ?_
 by_cases c12 : t = 12
 ·refine cond_yes (p := t = 12) (by exact wv0) c12 ?_
  refine ww0 ?_
  exact ⟨Ext.refl _, by subst c12; rfl⟩
 refine cond_no (p := t = 12) (by exact wv0) c12 ?_
 refine wr0 ?_
 by_cases c23 : t = 23
 ·refine cond_yes (p := t = 23) (by exact wv0) c23 ?_
  refine ww0 ?_
  exact ⟨Ext.refl _, by subst c23; rfl⟩
 refine cond_no (p := t = 23) (by exact wv0) c23 ?_
 refine wr0 ?_
 by_cases c24 : t = 24
 ·refine cond_yes (p := t = 24) (by exact wv0) c24 ?_
  refine ww0 ?_
  exact ⟨Ext.refl _, by subst c24; rfl⟩
 refine cond_no (p := t = 24) (by exact wv0) c24 ?_
 refine wr0 ?_
 by_cases c25 : t = 25
 ·refine cond_yes (p := t = 25) (by exact wv0) c25 ?_
  refine wr0 ?_
  refine cond_yes (p := t = 25) (by exact wv0) c25 ?_
  refine ww0 ?_
  exact ⟨Ext.refl _, by subst c25; rfl⟩
 refine cond_no (p := t = 25) (by exact wv0) c25 ?_
 refine wr0 ?_
 by_cases c26 : t = 26
 ·refine cond_yes (p := t = 26) (by exact wv0) c26 ?_
  refine ww0 ?_
  exact ⟨Ext.refl _, by subst c26; rfl⟩
 refine cond_no (p := t = 26) (by exact wv0) c26 ?_
 refine wr0 ?_
 by_cases c27 : t = 27
 ·refine cond_yes (p := t = 27) (by exact wv0) c27 ?_
  refine ww0 ?_
  exact ⟨Ext.refl _, by subst c27; rfl⟩
 refine cond_no (p := t = 27) (by exact wv0) c27 ?_
 refine wr0 ?_
 by_cases c28 : t = 28
 ·refine cond_yes (p := t = 28) (by exact wv0) c28 ?_
  refine ww0 ?_
  exact ⟨Ext.refl _, by subst c28; rfl⟩
 refine cond_no (p := t = 28) (by exact wv0) c28 ?_
 refine wr0 ?_
 exact ⟨Ext.refl _, by unfold shapeF; rw [if_neg (by omega), if_neg (by omega), if_neg (by omega), if_neg (by omega), if_neg (by omega), if_neg (by omega), if_neg (by omega), if_neg (by omega)]⟩
theorem answer_spec (t : Int) (h : H) : Pure S.cfg 28 [.int .u8 t] h fun v _ => v = .int .i64 (answerF t) := by
 refine into Tryz.f28 _ Tryz.func28 (hS.ownR _ (by decide)) rfl rfl (by kernel_rfl) (by kernel_rfl) ?_
 refine wr1 @Tryz.f28.eq_1 ?_
 by_cases c1 : t = 1
 ·refine cond_yes (p := t = 1) (by exact wv0) c1 ?_
  refine wr0 ?_
  refine cond_yes (p := t = 1) (by exact wv0) c1 ?_
  refine ww0 ?_
  exact ⟨Ext.refl _, by subst c1; rfl⟩
 refine cond_no (p := t = 1) (by exact wv0) c1 ?_
 refine wr0 ?_
 by_cases c24 : t = 24
 ·refine cond_yes (p := t = 24) (by exact wv0) c24 ?_
  refine wr0 ?_
  refine cond_yes (p := t = 24) (by exact wv0) c24 ?_
  refine ww0 ?_
  exact ⟨Ext.refl _, by subst c24; rfl⟩
 refine cond_no (p := t = 24) (by exact wv0) c24 ?_
 refine wr0 ?_
 by_cases c25 : t = 25
 ·refine cond_yes (p := t = 25) (by exact wv0) c25 ?_
  refine ww0 ?_
  exact ⟨Ext.refl _, by subst c25; rfl⟩
 refine cond_no (p := t = 25) (by exact wv0) c25 ?_
 refine wr0 ?_
 by_cases c2 : t = 2
 ·refine cond_yes (p := t = 2) (by exact wv0) c2 ?_
  refine wr0 ?_
  refine cond_yes (p := t = 2) (by exact wv0) c2 ?_
  refine ww0 ?_
  exact ⟨Ext.refl _, by subst c2; rfl⟩
 refine cond_no (p := t = 2) (by exact wv0) c2 ?_
 refine wr0 ?_
 by_cases c14 : t = 14
 ·refine cond_yes (p := t = 14) (by exact wv0) c14 ?_
  refine wr0 ?_
  refine cond_yes (p := t = 14) (by exact wv0) c14 ?_
  refine ww0 ?_
  exact ⟨Ext.refl _, by subst c14; rfl⟩
 refine cond_no (p := t = 14) (by exact wv0) c14 ?_
 refine wr0 ?_
 by_cases c26 : t = 26
 ·refine cond_yes (p := t = 26) (by exact wv0) c26 ?_
  refine wr0 ?_
  refine cond_yes (p := t = 26) (by exact wv0) c26 ?_
  refine ww0 ?_
  exact ⟨Ext.refl _, by subst c26; rfl⟩
 refine cond_no (p := t = 26) (by exact wv0) c26 ?_
 refine wr0 ?_
 by_cases c31 : t = 31
 ·refine cond_yes (p := t = 31) (by exact wv0) c31 ?_
  refine wr0 ?_
  refine cond_yes (p := t = 31) (by exact wv0) c31 ?_
  refine ww0 ?_
  exact ⟨Ext.refl _, by subst c31; rfl⟩
 refine cond_no (p := t = 31) (by exact wv0) c31 ?_
 refine wr0 ?_
 by_cases c12 : t = 12
 ·refine cond_yes (p := t = 12) (by exact wv0) c12 ?_
  refine ww0 ?_
  exact ⟨Ext.refl _, by subst c12; rfl⟩
 refine cond_no (p := t = 12) (by exact wv0) c12 ?_
 refine wr0 ?_
 by_cases c27 : t = 27
 ·refine cond_yes (p := t = 27) (by exact wv0) c27 ?_
  refine ww0 ?_
  exact ⟨Ext.refl _, by subst c27; rfl⟩
 refine cond_no (p := t = 27) (by exact wv0) c27 ?_
 refine wr0 ?_
 by_cases c9 : t = 9
 ·refine cond_yes (p := t = 9) (by exact wv0) c9 ?_
  refine ww0 ?_
  exact ⟨Ext.refl _, by subst c9; rfl⟩
 refine cond_no (p := t = 9) (by exact wv0) c9 ?_
 refine wr0 ?_
 by_cases c3 : t = 3
 ·refine cond_yes (p := t = 3) (by exact wv0) c3 ?_
  refine wr0 ?_
  refine cond_yes (p := t = 3) (by exact wv0) c3 ?_
  refine ww0 ?_
  exact ⟨Ext.refl _, by subst c3; rfl⟩
 refine cond_no (p := t = 3) (by exact wv0) c3 ?_
 refine wr0 ?_
 by_cases c23 : t = 23
 ·refine cond_yes (p := t = 23) (by exact wv0) c23 ?_
  refine ww0 ?_
  exact ⟨Ext.refl _, by subst c23; rfl⟩
 refine cond_no (p := t = 23) (by exact wv0) c23 ?_
 refine wr0 ?_
 by_cases c22 : t = 22
 ·refine cond_yes (p := t = 22) (by exact wv0) c22 ?_
  refine ww0 ?_
  exact ⟨Ext.refl _, by subst c22; rfl⟩
 refine cond_no (p := t = 22) (by exact wv0) c22 ?_
 refine wr0 ?_
 by_cases c28 : t = 28
 ·refine cond_yes (p := t = 28) (by exact wv0) c28 ?_
  refine ww0 ?_
  exact ⟨Ext.refl _, by subst c28; rfl⟩
 refine cond_no (p := t = 28) (by exact wv0) c28 ?_
 refine wr0 ?_
 by_cases c17 : t = 17
 ·refine cond_yes (p := t = 17) (by exact wv0) c17 ?_
  refine ww0 ?_
  exact ⟨Ext.refl _, by subst c17; rfl⟩
 refine cond_no (p := t = 17) (by exact wv0) c17 ?_
 refine wr0 ?_
 exact ⟨Ext.refl _, by unfold answerF; rw [if_neg (by omega), if_neg (by omega), if_neg (by omega), if_neg (by omega), if_neg (by omega), if_neg (by omega), if_neg (by omega), if_neg (by omega)]⟩
end
noncomputable section
def cmdOk (X : RX) (k fl : Int) (n : Nat) : Prop := (shapeF k = 1 ∨ X.x1 = []) ∧ (shapeF k = 3 ∨ shapeF k = 4 ∨ shapeF k = 5 ∨ shapeF k = 7 ∨ X.x2 = 0) ∧ (shapeF k = 4 ∨ X.x3 = 0) ∧ (shapeF k = 3 ∨ fl = 0) ∧ (shapeF k = 2 ∨ shapeF k = 7 ∨ X.x5 = 0) ∧ (shapeF k = 6 ∨ X.x6 = 0) ∧ (shapeF k = 3 ∨ shapeF k = 4 ∨ shapeF k = 8 ∨ n = 0) ∧ fl ≤ 1
def bareX (X : RX) (k fl : Int) : List V := [.int .u8 k, .str (if shapeF k = 1 then X.x1 else []), .int .u32 (if shapeF k = 3 ∨ shapeF k = 4 ∨ shapeF k = 5 ∨ shapeF k = 7 then X.x2 else 0), .int .u16 (if shapeF k = 4 then X.x3 else 0), .int .u8 (if shapeF k = 3 then fl else 0), .int .u32 (if shapeF k = 2 ∨ shapeF k = 7 then X.x5 else 0), .int .u16 (if shapeF k = 6 then X.x6 else 0), if shapeF k = 3 ∨ shapeF k = 4 ∨ shapeF k = 8 then X.x7 else .nilslice]
def cmdC (X : RX) (k fl : Int) : List V := [.int .u8 k, .str X.x1, .int .u32 X.x2, .int .u16 X.x3, .int .u8 fl, .int .u32 X.x5, .int .u16 X.x6, X.x7]
theorem shape_in (k : Int) : shapeF k = 0 ∨ shapeF k = 1 ∨ shapeF k = 2 ∨ shapeF k = 3 ∨ shapeF k = 4 ∨ shapeF k = 5 ∨ shapeF k = 6 ∨ shapeF k = 7 ∨ shapeF k = 8 := by
 unfold shapeF
 repeat' split
 all_goals omega
variable {S : Set0} (hS : StdR S)
include hS
theorem needed_spec (h : H) : Exact S.cfg 26 [] h (.int .u32 565760) := by
 refine into Tryz.f26 _ Tryz.func26 (hS.ownR _ (by decide)) rfl rfl (by kernel_rfl) (by kernel_rfl) ?_
 exact wv1 @Tryz.f26.eq_1
theorem caps_spec (c : Int) (h : H) : Exact S.cfg 29 [.int .u32 c] h (.int .i64 (@ite _ (iAnd .u32 c 565760 = 565760) (Classical.propDecidable _) 0 5)) := by
 refine into Tryz.f29 _ Tryz.func29 (hS.ownR _ (by decide)) rfl rfl (by kernel_rfl) (by kernel_rfl) ?_
 refine ww1 @Tryz.f29.eq_1 ?_
 refine callF_exact (needed_spec hS _) ?_
 refine ww0 ?_
 refine callF_exact (needed_spec hS _) ?_
 by_cases q : iAnd .u32 c 565760 = 565760
 ·rw [if_pos q]
  have q' := eq_true q
  exact wv1 q'
 ·rw [if_neg q]
  exact wv1 q
theorem bare_spec (X : RX) (hX : X.x7.cells = [X.x7] ∧ X.x7.isCell = true) (k fl : Int) (h : H) : Pure S.cfg 56 [.agg (cmdC X k fl)] h fun v _ => v = .agg (bareX X k fl) := by
 refine into Tryz.f56 _ Tryz.func56 (hS.ownR _ (by decide)) rfl rfl (by kernel_rfl) (by kernel_rfl) ?_
 unfold cmdC
 have x1 := hX.1
 have x2 := hX.2
 refine ww1 (cj @Tryz.f56.eq_1 <| cj x1 x2) ?_
 refine ⟨.inr (by omega), ?_⟩
 generalize hhA : H.put (H.push (H.push (H.push h _) _) _) _ _ = hA
 have hxA : Ext h hA := by rw [← hhA]; exact ((((Ext.refl h).push _).push _).push _).put (by omega) _
 have nA : hA.nx = h.nx + 3 := by rw [← hhA]; rfl
 have g0 : hA.get h.nx = some (.cells (cmdC X k fl) 27 false) := by rw [← hhA, put_ne (by omega), push_ne (by simp only [push_nx]; omega), push_ne (by simp only [push_nx]; omega)]; exact push_eq rfl
 have g1 : hA.get (h.nx + 1) = some (.cells [.int .u8 0, .str [], .int .u32 0, .int .u16 0, .int .u8 0, .int .u32 0, .int .u16 0, .nilslice] 27 false) := by rw [← hhA, put_ne (by omega), push_ne (by simp only [push_nx]; omega)]; exact push_eq rfl
 have g2 : hA.get (h.nx + 1 + 1) = some (.cells [.int .u8 k, .str [], .int .u32 0, .int .u16 0, .int .u8 0, .int .u32 0, .int .u16 0, .nilslice] 27 false) := by rw [← hhA]; exact put_eq rfl
 clear hhA
 refine callF_pure (shape_spec hS k _) ?_
 rintro _ h1 hx1 rfl
 have n1 := hx1.1
 have k0 : h1.get h.nx = some (.cells (cmdC X k fl) 27 false) := by rw [hx1.2 _ (by omega)]; exact g0
 have k1 := (hx1.2 (h.nx + 1) (by omega)).trans g1
 have k2 := (hx1.2 (h.nx + 1 + 1) (by omega)).trans g2
 unfold cmdC at k0
 have hx := hxA.trans hx1
 have hp : ∀ o1, Ext h (h1.put (h.nx + 1) o1) := fun o1 => hx.put (by omega) o1
 unfold bareX
 have hp2 : ∀ o1 o2, Ext h ((h1.put (h.nx + 1 + 1) o1).put (h.nx + 1) o2) := fun o1 o2 => (hx.put (by omega) o1).put (by omega) o2
 have hp3 : ∀ o1 o2 o3, Ext h (((h1.put (h.nx + 1 + 1) o1).put (h.nx + 1 + 1) o2).put (h.nx + 1) o3) := fun o1 o2 o3 => ((hx.put (by omega) o1).put (by omega) o2).put (by omega) o3
 have hp4 : ∀ o1 o2 o3 o4, Ext h ((((h1.put (h.nx + 1 + 1) o1).put (h.nx + 1 + 1) o2).put (h.nx + 1 + 1) o3).put (h.nx + 1) o4) := fun o1 o2 o3 o4 => (((hx.put (by omega) o1).put (by omega) o2).put (by omega) o3).put (by omega) o4
 have rw1 : ∀ o n o' n', fpApart (.lg [.rd h.nx o n]) (.lg [.wr (h.nx + 1 + 1) o' n']) := fun o n o' n' => rd_wr (by omega)
 have q1 : ¬ h.nx = h.nx + 1 + 1 := by omega
 rcases shape_in k with e | e | e | e | e | e | e | e | e
 ·refine wew1 (cj e <| cj k0 <| cj k1 <| cj k2 <| cj x1 x2) ?_
  exact ⟨.inr (by omega), hp _⟩
 ·refine wew1 (cj e <| cj k0 <| cj k1 <| cj k2 <| cj x1 x2) ?_
  exact ⟨.inr (by omega), .inr (by omega), hp2 _ _⟩
 ·refine wew1 (cj e <| cj k0 <| cj k1 <| cj k2 <| cj x1 x2) ?_
  exact ⟨.inr (by omega), .inr (by omega), hp2 _ _⟩
 ·refine wew1 (cj e <| cj k0 <| cj k1 <| cj k2 <| cj x1 x2) ?_
  refine draw_by [(3, 7), (5, 7), (5, 9)] (by kernel_rfl) ?_
  refine wew1 (cj e <| cj k0 <| cj k1 <| cj k2 <| cj x1 <| cj x2 q1) ?_
  refine ⟨.inr (by omega), .inr (by omega), .inr (by omega), fun p hp => ?_, .inr (by omega), hp4 _ _ _ _⟩
  simp only [List.mem_cons, List.not_mem_nil, or_false] at hp
  rcases hp with rfl | rfl | rfl
  ·exact pair_one rfl rfl (rw1 _ _ _ _)
  ·exact pair_one rfl rfl (rw1 _ _ _ _)
  ·exact pair_one rfl rfl (rw1 _ _ _ _)
 ·refine wew1 (cj e <| cj k0 <| cj k1 <| cj k2 <| cj x1 x2) ?_
  refine draw_by [(3, 7), (5, 7), (5, 9)] (by kernel_rfl) ?_
  refine wew1 (cj e <| cj k0 <| cj k1 <| cj k2 <| cj x1 <| cj x2 q1) ?_
  refine ⟨.inr (by omega), .inr (by omega), .inr (by omega), fun p hp => ?_, .inr (by omega), hp4 _ _ _ _⟩
  simp only [List.mem_cons, List.not_mem_nil, or_false] at hp
  rcases hp with rfl | rfl | rfl
  ·exact pair_one rfl rfl (rw1 _ _ _ _)
  ·exact pair_one rfl rfl (rw1 _ _ _ _)
  ·exact pair_one rfl rfl (rw1 _ _ _ _)
 ·refine wew1 (cj e <| cj k0 <| cj k1 <| cj k2 <| cj x1 x2) ?_
  exact ⟨.inr (by omega), .inr (by omega), hp2 _ _⟩
 ·refine wew1 (cj e <| cj k0 <| cj k1 <| cj k2 <| cj x1 x2) ?_
  exact ⟨.inr (by omega), .inr (by omega), hp2 _ _⟩
 ·refine wew1 (cj e <| cj k0 <| cj k1 <| cj k2 <| cj x1 x2) ?_
  refine draw_by [(3, 5)] (by kernel_rfl) ?_
  refine wew1 (cj e <| cj k0 <| cj k1 <| cj k2 <| cj x1 <| cj x2 q1) ?_
  refine ⟨.inr (by omega), .inr (by omega), fun p hp => ?_, .inr (by omega), hp3 _ _ _⟩
  rw [List.mem_singleton.1 hp]
  exact pair_one rfl rfl (rw1 _ _ _ _)
 ·refine wew1 (cj e <| cj k0 <| cj k1 <| cj k2 <| cj x1 x2) ?_
  exact ⟨.inr (by omega), .inr (by omega), hp2 _ _⟩
theorem check_spec {X : RX} {d : List Nat} {h : H} (b : BS 5 h X.x7 d) (k fl : Int) : Pure S.cfg 30 [.agg (cmdC X k fl)] h fun v _ => v = .int .i64 (@ite _ (cmdOk X k fl d.length) (Classical.propDecidable _) 0 2) := by
 refine into Tryz.f30 _ Tryz.func30 (hS.ownR _ (by decide)) rfl rfl (by kernel_rfl) (by kernel_rfl) ?_
 have hX := b.cell
 have x1 := hX.1
 have x2 := hX.2
 have bs := fun h => bare_spec hS X hX k fl h
 unfold cmdC at bs ⊢
 refine ww1 (cj @Tryz.f30.eq_1 <| cj x1 x2) ?_
 refine callF_pure (bs _) ?_
 rintro _ h1 hx1 rfl
 have n1 := hx1.1
 have g0 : h1.get h.nx = some (.cells [.int .u8 k, .str X.x1, .int .u32 X.x2, .int .u16 X.x3, .int .u8 fl, .int .u32 X.x5, .int .u16 X.x6, X.x7] 27 false) := by rw [hx1.2 _ (by simp only [push_nx]; omega)]; exact push_eq rfl
 have hx : Ext h h1 := ((Ext.refl h).push _).trans hx1
 simp only [push_nx] at n1
 have l1 := b.len 5
 have l2 := (BS.nil 5 h).len 5
 have nc : V.nilslice.cells = [V.nilslice] := rfl
 have ni : V.nilslice.isCell = true := rfl
 have q : ¬ h.nx = h1.nx := by omega
 unfold bareX
 have hE : ∀ o1 o2, Ext h ((h1.push o1).put h1.nx o2) := fun o1 o2 => (hx.push o1).put (by omega) o2
 have hb0 : d.length = 0 ∨ 0 < d.length := by omega
 rcases shape_in k with e | e | e | e | e | e | e | e | e
 all_goals
  refine wew1 (cj e <| cj g0 <| cj x1 <| cj x2 <| cj l1 <| cj l2 <| cj nc <| cj ni q) ?_
  refine ⟨.inr (by omega), fun w => ⟨hE _ _, ?_⟩, fun w => ⟨hE _ _, ?_⟩⟩
  ·rw [if_neg]
   intro u
   unfold cmdOk at u
   rw [e] at u
   grind
  ·rw [if_pos]
   unfold cmdOk
   rw [e]
   grind
end
noncomputable section
theorem answer_in (k : Int) : answerF k = 1 ∨ answerF k = 2 ∨ answerF k = 3 ∨ answerF k = 4 ∨ answerF k = 5 ∨ answerF k = 6 ∨ answerF k = 7 ∨ answerF k = 8 ∨ answerF k = 9 := by
 unfold answerF
 repeat' split
 all_goals omega
def firstN (k : Int) : Option FuncId := if answerF k = 1 then none else if answerF k = 2 then some 34 else if answerF k = 3 then some 35 else if answerF k = 4 then some 36 else if answerF k = 5 then some 37 else if answerF k = 6 then some 38 else if answerF k = 7 then some 39 else some 40
def newS (c k fl : Int) (cols : List CO) : RS := ⟨c, k, fl, firstN k, ¬ answerF k = 1, False, 0, if answerF k = 7 then cols else [], [], 0, False, 0, ¬ k = 3⟩
def newOk (X : RX) (c k fl : Int) (n : Nat) : Prop := iAnd .u32 c 565760 = 565760 ∧ cmdOk X k fl n ∧ ¬ answerF k = 8
theorem _root_.Go.Wx.Ext.trans_but' {r : Nat} {h a b : H} (x : Ext h a) (y : But r a b) (hr : h.nx ≤ r) : Ext h b := ⟨Nat.le_trans x.1 y.1, fun k hk => by rw [y.2 k (Nat.lt_of_lt_of_le hk x.1) (by omega), x.2 k hk]⟩
variable {S : Set0} (hS : StdR S)
include hS
end
end Go.Proofs.YtinbhlejofgomaaGreat
