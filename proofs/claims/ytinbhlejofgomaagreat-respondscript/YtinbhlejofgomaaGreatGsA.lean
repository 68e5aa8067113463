/-
  Several texts of one walk, joined.
-/
import Derived.Test.YtinbhlejofgomaaGreatCsA
set_option linter.unusedSimpArgs false
set_option linter.unusedVariables false
set_option linter.unusedSectionVars false
set_option linter.defProp false
set_option maxRecDepth 20000
set_option maxHeartbeats 2000000
namespace Go.Proofs.YtinbhlejofgomaaGreat
open Go.Proofs Go.Lx Go.Wx Go.IntWalk
noncomputable section
structure WH where
 neg : Bool
 a1 : Int
 a2 : Int
 a3 : Int
 a4 : Int
 a5 : Int
 a6 : Int
 a7 : Int
def WH.cells (w : WH) : List V := [.bool w.neg, .int .i64 w.a1, .int .i64 w.a2, .int .i64 w.a3, .int .i64 w.a4, .int .i64 w.a5, .int .i64 w.a6, .int .i64 w.a7]
def WH.z : WH := ⟨false, 0, 0, 0, 0, 0, 0, 0⟩
theorem and_match (p : Prop) [Decidable p] (b : Bool) (r : Option Bool) (h : r = some (decide p)) : (match some b with
  | some true => r
  | x => x) = some (decide (b = true ∧ p)) := by
 cases b
 ·simp
 ·rw [h]; simp
theorem eq132 (a b : Bool) (a1 a2 a3 a4 a5 a6 a7 b1 b2 b3 b4 b5 b6 b7 : Int) : eqT Tryz.prog 132 (.agg [.bool a, .int .i64 a1, .int .i64 a2, .int .i64 a3, .int .i64 a4, .int .i64 a5, .int .i64 a6, .int .i64 a7]) (.agg [.bool b, .int .i64 b1, .int .i64 b2, .int .i64 b3, .int .i64 b4, .int .i64 b5, .int .i64 b6, .int .i64 b7]) = some (decide (a = b ∧ a1 = b1 ∧ a2 = b2 ∧ a3 = b3 ∧ a4 = b4 ∧ a5 = b5 ∧ a6 = b6 ∧ a7 = b7)) := by
 have e : eqT Tryz.prog 132 (.agg [.bool a, .int .i64 a1, .int .i64 a2, .int .i64 a3, .int .i64 a4, .int .i64 a5, .int .i64 a6, .int .i64 a7]) (.agg [.bool b, .int .i64 b1, .int .i64 b2, .int .i64 b3, .int .i64 b4, .int .i64 b5, .int .i64 b6, .int .i64 b7]) = (match some (a == b) with
  | some true => (match some (a1 == b1) with
    | some true => (match some (a2 == b2) with
      | some true => (match some (a3 == b3) with
        | some true => (match some (a4 == b4) with
          | some true => (match some (a5 == b5) with
            | some true => (match some (a6 == b6) with
              | some true => (match some (a7 == b7) with
                | some true => some true
                | r => r)
              | r => r)
            | r => r)
          | r => r)
        | r => r)
      | r => r)
    | r => r)
  | r => r) := by kernel_rfl
 rw [e, and_match _ _ _ (and_match _ _ _ (and_match _ _ _ (and_match _ _ _ (and_match _ _ _ (and_match _ _ _ (and_match _ _ _ (and_match True _ _ (by simp))))))))]
 simp only [beq_iff_eq, and_true]
def clockP (w : WH) : Prop := (0 ≤ w.a4 ∧ w.a4 ≤ 23) ∧ (0 ≤ w.a5 ∧ w.a5 ≤ 59) ∧ (0 ≤ w.a6 ∧ w.a6 ≤ 59) ∧ 0 ≤ w.a7 ∧ w.a7 ≤ 999999
def fineP (w : WH) (t : Int) : Prop := clockP w ∧ ((t = 11 ∧ w.a1 = 0 ∧ w.a2 = 0 ∧ (0 ≤ w.a3 ∧ w.a3 ≤ 34) ∧ ¬ (w.neg = true ∧ w.a3 = 0 ∧ w.a4 = 0 ∧ w.a5 = 0 ∧ w.a6 = 0 ∧ w.a7 = 0)) ∨ (t ≠ 11 ∧ w.neg = false ∧ (0 ≤ w.a1 ∧ w.a1 ≤ 9999) ∧ (0 ≤ w.a2 ∧ w.a2 ≤ 12) ∧ (0 ≤ w.a3 ∧ w.a3 ≤ 31) ∧ ¬ (t = 10 ∧ ¬ (w.a4 = 0 ∧ w.a5 = 0 ∧ w.a6 = 0 ∧ w.a7 = 0))))
def sizeF (t : Int) : Nat := if t = 1 then 1 else if t = 2 ∨ t = 13 then 2 else if t = 3 ∨ t = 9 ∨ t = 4 then 4 else if t = 8 ∨ t = 5 then 8 else 0
theorem sizeF_le (t : Int) : sizeF t ≤ 8 := by
 unfold sizeF
 repeat' split
 all_goals omega
def kindF (t : Int) (u : Bool) : Int := if t = 1 ∨ t = 2 ∨ t = 13 ∨ t = 3 ∨ t = 9 ∨ t = 8 then (if u = true then 2 else 1) else if t = 4 then 3 else if t = 5 then 4 else if t = 7 ∨ t = 10 ∨ t = 12 then 5 else if t = 11 then 6 else if t = 6 then 0 else if knownP t then 7 else -1
theorem cond_yes {c : Cfg} {Ok : Nat → Prop} {k : List Kt} {Q : Ex → Env → H → Prop} {env : Env} {h : H} {x : Operand} {a b : Code} {p : Prop} (hv : evalE env x = bo p) (hp : p) (hA : run c Ok k a env h Q) : run c Ok k (.cond x a b) env h Q := by
 rw [run_cond, hv]
 exact ⟨_, rfl, fun _ => hA, fun q => absurd hp (by simpa using q)⟩
theorem bo_iff {p q : Prop} (h : p ↔ q) : bo p = bo q := by rw [propext h]
variable {S : Set0} (hS : StdR S)
include hS
theorem vsize_spec (t : Int) (h : H) : Pure S.cfg 147 [.int .u8 t] h fun v _ => v = .int .i64 (sizeF t : Nat) := by
 refine into Tryz.f147 _ Tryz.func147 (hS.ownR _ (by decide)) rfl rfl (by kernel_rfl) (by kernel_rfl) ?_
 refine wr1 @Tryz.f147.eq_1 ?_
 by_cases c1 : t = 1
 ·refine cond_yes (p := t = 1) (by exact wv0) c1 ?_
  refine ww0 ?_
  exact ⟨Ext.refl _, by subst c1; rfl⟩
 refine cond_no (p := t = 1) (by exact wv0) c1 ?_
 refine wr0 ?_
 by_cases c2 : t = 2
 ·refine cond_yes (p := t = 2) (by exact wv0) c2 ?_
  refine wr0 ?_
  refine cond_yes (p := t = 2) (by exact wv0) c2 ?_
  refine ww0 ?_
  exact ⟨Ext.refl _, by subst c2; rfl⟩
 refine cond_no (p := t = 2) (by exact wv0) c2 ?_
 refine wr0 ?_
 by_cases c13 : t = 13
 ·refine cond_yes (p := t = 13) (by exact wv0) c13 ?_
  refine ww0 ?_
  exact ⟨Ext.refl _, by subst c13; rfl⟩
 refine cond_no (p := t = 13) (by exact wv0) c13 ?_
 refine wr0 ?_
 by_cases c3 : t = 3
 ·refine cond_yes (p := t = 3) (by exact wv0) c3 ?_
  refine wr0 ?_
  refine cond_yes (p := t = 3) (by exact wv0) c3 ?_
  refine ww0 ?_
  exact ⟨Ext.refl _, by subst c3; rfl⟩
 refine cond_no (p := t = 3) (by exact wv0) c3 ?_
 refine wr0 ?_
 by_cases c9 : t = 9
 ·refine cond_yes (p := t = 9) (by exact wv0) c9 ?_
  refine wr0 ?_
  refine cond_yes (p := t = 9) (by exact wv0) c9 ?_
  refine ww0 ?_
  exact ⟨Ext.refl _, by subst c9; rfl⟩
 refine cond_no (p := t = 9) (by exact wv0) c9 ?_
 refine wr0 ?_
 by_cases c4 : t = 4
 ·refine cond_yes (p := t = 4) (by exact wv0) c4 ?_
  refine ww0 ?_
  exact ⟨Ext.refl _, by subst c4; rfl⟩
 refine cond_no (p := t = 4) (by exact wv0) c4 ?_
 refine wr0 ?_
 by_cases c8 : t = 8
 ·refine cond_yes (p := t = 8) (by exact wv0) c8 ?_
  refine wr0 ?_
  refine cond_yes (p := t = 8) (by exact wv0) c8 ?_
  refine ww0 ?_
  exact ⟨Ext.refl _, by subst c8; rfl⟩
 refine cond_no (p := t = 8) (by exact wv0) c8 ?_
 refine wr0 ?_
 by_cases c5 : t = 5
 ·refine cond_yes (p := t = 5) (by exact wv0) c5 ?_
  refine ww0 ?_
  exact ⟨Ext.refl _, by subst c5; rfl⟩
 refine cond_no (p := t = 5) (by exact wv0) c5 ?_
 refine wr0 ?_
 exact ⟨Ext.refl _, by unfold sizeF; rw [if_neg c1, if_neg (by omega), if_neg (by omega), if_neg (by omega)]⟩
theorem between_spec (x a b : Int) (h : H) : Exact S.cfg 162 [.int .i64 x, .int .i64 a, .int .i64 b] h (bo (a ≤ x ∧ x ≤ b)) := by
 refine into Tryz.f162 _ Tryz.func162 (hS.ownR _ (by decide)) rfl rfl (by kernel_rfl) (by kernel_rfl) ?_
 by_cases h1 : a ≤ x
 ·have e : (a ≤ x ∧ x ≤ b) = (x ≤ b) := by simp [h1]
  rw [e]
  exact wv1 (cj @Tryz.f162.eq_1 h1)
 ·have e : (a ≤ x ∧ x ≤ b) = False := by simp [h1]
  rw [e]
  exact wv1 (cj @Tryz.f162.eq_1 h1)
theorem clock_spec (w : WH) (h : H) : Pure S.cfg 161 [.agg w.cells] h fun v _ => v = bo (clockP w) := by
 refine into Tryz.f161 _ Tryz.func161 (hS.ownR _ (by decide)) rfl rfl (by kernel_rfl) (by kernel_rfl) ?_
 unfold WH.cells
 refine ww1 @Tryz.f161.eq_1 ?_
 refine callF_exact (between_spec hS _ _ _ _) ?_
 by_cases hA : 0 ≤ w.a4 ∧ w.a4 ≤ 23
 ·have hA' := eq_true hA
  refine ww1 hA' ?_
  refine callF_exact (between_spec hS _ _ _ _) ?_
  by_cases hB : 0 ≤ w.a5 ∧ w.a5 ≤ 59
  ·have hB' := eq_true hB
   refine ww1 hB' ?_
   refine callF_exact (between_spec hS _ _ _ _) ?_
   by_cases hC : 0 ≤ w.a6 ∧ w.a6 ≤ 59
   ·have hC' := eq_true hC
    refine ww1 hC' ?_
    refine callF_exact (between_spec hS _ _ _ _) ?_
    refine ww0 ?_
    exact ⟨(Ext.refl h).push _, bo_iff ⟨fun q => ⟨hA, hB, hC, q⟩, fun q => q.2.2.2⟩⟩
   ·refine ww1 hC ?_
    exact ⟨(Ext.refl h).push _, bo_iff ⟨fun q => q.elim, fun q => hC q.2.2.1⟩⟩
  ·refine ww1 hB ?_
   exact ⟨(Ext.refl h).push _, bo_iff ⟨fun q => q.elim, fun q => hB q.2.1⟩⟩
 ·refine ww1 hA ?_
  exact ⟨(Ext.refl h).push _, bo_iff ⟨fun q => q.elim, fun q => hA q.1⟩⟩
end
noncomputable section
theorem listPut_at0 {α : Type} : ∀ (cs vs : List α), vs.length ≤ cs.length → listPut cs 0 vs = vs ++ cs.drop vs.length
 | cs, [], _ => by cases cs <;> rfl
 | [], v :: vs, h => by simp at h
 | c :: cs, v :: vs, h => by
   show v :: listPut cs 0 vs = _
   rw [listPut_at0 cs vs (by simpa using h)]
   rfl
theorem btT : V.bool true = bo True := by simp [bo]
theorem btF : V.bool false = bo False := by simp [bo]
theorem neq127 (a b : Bool) (a1 a2 a3 a4 a5 a6 a7 b1 b2 b3 b4 b5 b6 b7 : Int) (c : Bool) : binV Tryz.prog .neq 132 c (.agg [.bool a, .int .i64 a1, .int .i64 a2, .int .i64 a3, .int .i64 a4, .int .i64 a5, .int .i64 a6, .int .i64 a7]) (.agg [.bool b, .int .i64 b1, .int .i64 b2, .int .i64 b3, .int .i64 b4, .int .i64 b5, .int .i64 b6, .int .i64 b7]) = some (bo (¬ (a = b ∧ a1 = b1 ∧ a2 = b2 ∧ a3 = b3 ∧ a4 = b4 ∧ a5 = b5 ∧ a6 = b6 ∧ a7 = b7))) := by
 show eqOpV Tryz.prog .neq 132 _ _ = _
 unfold eqOpV
 rw [eq132]
 by_cases h : a = b ∧ a1 = b1 ∧ a2 = b2 ∧ a3 = b3 ∧ a4 = b4 ∧ a5 = b5 ∧ a6 = b6 ∧ a7 = b7
 ·rw [decide_eq_true h]; simp [h, bo]
 ·rw [decide_eq_false h]; simp only [h, bo]; simp
theorem eql127 (a b : Bool) (a1 a2 a3 a4 a5 a6 a7 b1 b2 b3 b4 b5 b6 b7 : Int) (c : Bool) : binV Tryz.prog .eql 132 c (.agg [.bool a, .int .i64 a1, .int .i64 a2, .int .i64 a3, .int .i64 a4, .int .i64 a5, .int .i64 a6, .int .i64 a7]) (.agg [.bool b, .int .i64 b1, .int .i64 b2, .int .i64 b3, .int .i64 b4, .int .i64 b5, .int .i64 b6, .int .i64 b7]) = some (bo (a = b ∧ a1 = b1 ∧ a2 = b2 ∧ a3 = b3 ∧ a4 = b4 ∧ a5 = b5 ∧ a6 = b6 ∧ a7 = b7)) := by
 show eqOpV Tryz.prog .eql 132 _ _ = _
 unfold eqOpV
 rw [eq132]
 by_cases h : a = b ∧ a1 = b1 ∧ a2 = b2 ∧ a3 = b3 ∧ a4 = b4 ∧ a5 = b5 ∧ a6 = b6 ∧ a7 = b7
 ·rw [decide_eq_true h]; simp [h, bo]
 ·rw [decide_eq_false h]; simp only [h, bo]; simp
variable {S : Set0}
theorem mk_bytes {Ok : Nat → Prop} {env : Env} {h : H} {K : V → H → Fp → Prop} {x : Operand} {n : Nat} (hn : n ≤ 1000) (hx : evalE env x = .int .i64 n) (hK : K (.slice h.nx 0 n n) (h.push (.cells (bytesV (List.replicate n 0)) 5 false)) (.lg [.wrd h.nx])) : opW S.cfg Ok (.makeSlice 25 x x) env h K := by
 rw [opW_makeSlice, hx]
 obtain ⟨z, h0, h1, h2, h3, h4, h5⟩ := apI_inv (P := Tryz.prog) ap25
 have hz : zeroT Tryz.prog 5 = some (.int .u8 0) := by kernel_rfl
 have er : ∀ n, rep [V.int .u8 0] n = bytesV (List.replicate n 0) := fun n => by
  induction n with
  | zero => rfl
  | succ n ih => unfold rep; rw [ih]; rfl
 have e : opMakeSlice S.cfg.P 25 (.int .i64 (n : Nat)) (.int .i64 (n : Nat)) = (Lx.bnd (Lx.alloc (.cells (bytesV (List.replicate n 0)) 5 false)) fun k => Lx.ret (.slice k 0 n n)) := by
  show opMakeSlice Tryz.prog 25 (.int .i64 (.ofNat n)) (.int .i64 (.ofNat n)) = _
  unfold opMakeSlice
  rw [h0]
  simp only [h1, hz, h3]
  have hr : roomy n 1 = true := by
   unfold roomy
   simp only [Bool.and_eq_true]
   exact ⟨ble_iff.2 (by omega), rfl⟩
  rw [← er]
  simp only [ble_iff.2 (Nat.le_refl n), hr, Bool.true_and]
  rfl
 rw [e, goL_alloc, goL_ret]
 refine ⟨?_, hK⟩
 rw [LogOk_cons_wrd]
 exact ⟨.inl (Nat.le_refl _), LogOk_nil⟩
theorem copy_bs {Ok : Nat → Prop} {env : Env} {h : H} {K : V → H → Fp → Prop} {d x : Operand} {b m : Nat} {v : V} {l cs : List Nat} (hd : evalE env d = .slice b 0 cs.length m) (hx : evalE env x = v) (a : BS 5 h v l) (hb : h.get b = some (.cells (bytesV cs) 5 false)) (hl : l.length ≤ cs.length) (hOk : h.nx ≤ b ∨ Ok b)
  (hK : ∀ L, K (.int .i64 l.length) (h.put b (.cells (bytesV (l ++ cs.drop l.length)) 5 false)) (.lg L)) (hK0 : l = [] → ∀ L, K (.int .i64 (0 : Nat)) h (.lg L)) : opW S.cfg Ok (.call ⟨.builtin .copy, #[d, x], #[25, 25]⟩) env h K := by
 rw [opW_builtin]
 have e1 : builtinM S.cfg.P .copy #[25, 25] (List.map (evalE env) [d, x]) = copyM Tryz.prog 25 (evalE env d) (evalE env x) := rfl
 show goL h.nx Ok (builtinM S.cfg.P .copy #[25, 25] (List.map (evalE env) [d, x])) h [] K
 rw [e1, hd, hx]
 unfold copyM
 rw [ubs]
 simp only [szb]
 rcases a.2 with ⟨rfl, rfl⟩ | ⟨b2, o2, m2, rfl, h1, h2, h3, h4⟩
 ·rw [goL_ret]
  exact ⟨LogOk_nil, hK0 rfl _⟩
 ·simp only [Nat.mul_one, Nat.min_eq_left hl]
  rw [goL_ld]
  refine ⟨_, h3, ?_⟩
  rw [goL_stc]
  refine ⟨_, _, _, hb, ?_, isCell_bytes _, ?_⟩
  ·rw [bytesV_length, bytesV_length]; omega
  rw [goL_ret]
  refine ⟨?_, ?_⟩
  ·rw [LogOk_cons_wr, LogOk_cons_rd]
   exact ⟨hOk, LogOk_nil⟩
  ·rw [listPut_at0 _ _ (by rw [bytesV_length, bytesV_length]; exact hl)]
   have e : bytesV l ++ (bytesV cs).drop (bytesV l).length = bytesV (l ++ cs.drop l.length) := by
    rw [bytesV_length]
    simp only [bytesV, List.map_append, List.map_drop]
   rw [e]
   exact hK _
variable (hS : StdR S)
include hS
theorem number_spec {cv : V} {cs : List Nat} {cb : Nat} {h : H} (g : h.get cb = some (.cells [cv] 25 false)) (a : BS 5 h cv cs) (hl : cs.length = 13) (i n : Nat) (hi : i ≤ 13) (hn : 1 ≤ n ∧ n ≤ 8) : Exact S.cfg 157 [.int .i64 i, .int .i64 n, .ptr cb 0] h (.int .i64 (IntKind.i64.wrap (if (cs.drop i).length < n then 0 else rdX (cs.drop i) n))) := by
 refine into Tryz.f157 _ Tryz.func157 (hS.ownR _ (by decide)) rfl rfl (by kernel_rfl) (by kernel_rfl) ?_
 refine ww1 (cj @Tryz.f157.eq_1 g) ?_
 refine drop_bs (i := i) a ubs szb (by exact wv0) (by exact wv0) (by omega) fun w L hw _ _ => ?_
 refine ww0 ?_
 refine callF_exact (rfx_spec hS.toStdB hw (by rw [List.length_drop]; omega) n hn) ?_
 exact wv0
theorem fine_spec (w : WH) (t : Int) (h : H) : Pure S.cfg 158 [.agg w.cells, .int .u8 t] h fun v _ => v = bo (fineP w t) := by
 refine into Tryz.f158 _ Tryz.func158 (hS.ownR _ (by decide)) rfl rfl (by kernel_rfl) (by kernel_rfl) ?_
 have ck := fun h => clock_spec hS w h
 unfold WH.cells at ck ⊢
 refine ww1 @Tryz.f158.eq_1 ?_
 refine callF_pure (ck _) ?_
 rintro _ h1 hx1 rfl
 have g1 : h1.get h.nx = some (.cells [.bool w.neg, .int .i64 w.a1, .int .i64 w.a2, .int .i64 w.a3, .int .i64 w.a4, .int .i64 w.a5, .int .i64 w.a6, .int .i64 w.a7] 132 false) := by rw [hx1.2 _ (Nat.lt_succ_self _), push_eq rfl]
 have hx : Ext h h1 := ((Ext.refl h).push _).trans hx1
 by_cases hp : clockP w
 ·have hp' := eq_true hp
  by_cases ht : t = 11
  ·have ht' := eq_true ht
   refine ww1 (cj hp' <| cj g1 ht') ?_
   refine gCall_exact (first := []) (cap := []) (fun _ => between_spec hS _ _ _ _) fun fp => ?_
   by_cases hA : w.a1 = 0 ∧ w.a2 = 0
   ·have hA1 := eq_true hA.1
    have hA2 := eq_true hA.2
    by_cases hB : 0 ≤ w.a3 ∧ w.a3 ≤ 34
    ·have hB' := eq_true hB
     cases hN : w.neg with
     | false =>
       rw [hN] at g1
       refine ww1 (cj hp' <| cj g1 <| cj ht' <| cj hA1 <| cj hA2 hB') ?_
       exact ⟨hx, bo_iff ⟨fun _ => ⟨hp, .inl ⟨ht, hA.1, hA.2, hB, fun q => by rw [hN] at q; cases q.1⟩⟩, fun _ => trivial⟩⟩
     | true =>
       rw [hN] at g1
       have hq := neq127 true true w.a1 w.a2 w.a3 w.a4 w.a5 w.a6 w.a7 0 0 0 0 0 0 0
       rw [hA.1, hA.2, btT] at hq g1
       refine ww1 (cj hp' <| cj g1 <| cj ht' <| cj hA1 <| cj hA2 <| cj hB' hq) ?_
       exact ⟨hx, bo_iff ⟨fun q => ⟨hp, .inl ⟨ht, hA.1, hA.2, hB, fun u => q u.2⟩⟩, fun q u => by
        rcases q.2 with z | z
        ·exact z.2.2.2.2 ⟨hN, u⟩
        ·exact z.1 ht⟩⟩
    ·refine ww1 (cj hp' <| cj g1 <| cj ht' <| cj hA1 <| cj hA2 hB) ?_
     exact ⟨hx, bo_iff ⟨fun q => q.elim, fun q => by
      rcases q.2 with z | z
      ·exact hB z.2.2.2.1
      ·exact z.1 ht⟩⟩
   ·refine ww1 (cj hp' <| cj g1 <| cj ht' hA) ?_
    exact ⟨hx, bo_iff ⟨fun q => q.elim, fun q => by
      rcases q.2 with z | z
      ·exact hA ⟨z.2.1, z.2.2.1⟩
      ·exact z.1 ht⟩⟩
  ·cases hN : w.neg with
   | true =>
     rw [hN] at g1
     refine ww1 (cj hp' <| cj g1 ht) ?_
     exact ⟨hx, bo_iff ⟨fun q => q.elim, fun q => by
       rcases q.2 with z | z
       ·exact ht z.1
       ·rw [hN] at z; cases z.2.1⟩⟩
   | false =>
     rw [hN] at g1
     refine ww1 (cj hp' <| cj g1 ht) ?_
     refine callF_exact (between_spec hS _ _ _ _) ?_
     by_cases hA : 0 ≤ w.a1 ∧ w.a1 ≤ 9999
     ·have hA' := eq_true hA
      refine ww1 (cj hp' <| cj g1 <| cj ht hA') ?_
      refine callF_exact (between_spec hS _ _ _ _) ?_
      by_cases hB : 0 ≤ w.a2 ∧ w.a2 ≤ 12
      ·have hB' := eq_true hB
       refine ww1 (cj hp' <| cj g1 <| cj ht hB') ?_
       refine callF_exact (between_spec hS _ _ _ _) ?_
       by_cases hC : 0 ≤ w.a3 ∧ w.a3 ≤ 31
       ·have hC' := eq_true hC
        by_cases hD : t = 10
        ·have hD' := eq_true hD
         have hq := eql127 false false w.a1 w.a2 w.a3 w.a4 w.a5 w.a6 w.a7 w.a1 w.a2 w.a3 0 0 0 0
         rw [btF] at hq g1
         refine ww1 (cj hp' <| cj g1 <| cj ht <| cj hC' <| cj hD' hq) ?_
         exact ⟨hx, bo_iff ⟨fun q => ⟨hp, .inr ⟨ht, hN, hA, hB, hC, fun u => u.2 q⟩⟩, fun q => by
          rcases q.2 with z | z
          ·exact absurd z.1 ht
          ·exact Classical.byContradiction fun u => z.2.2.2.2.2 ⟨hD, u⟩⟩⟩
        ·refine ww1 (cj hp' <| cj g1 <| cj ht <| cj hC' hD) ?_
         exact ⟨hx, bo_iff ⟨fun q => ⟨hp, .inr ⟨ht, hN, hA, hB, hC, fun u => hD u.1⟩⟩, fun _ => trivial⟩⟩
       ·refine ww1 (cj hp' <| cj g1 <| cj ht hC) ?_
        exact ⟨hx, bo_iff ⟨fun q => q.elim, fun q => by
         rcases q.2 with z | z
         ·exact ht z.1
         ·exact hC z.2.2.2.2.1⟩⟩
      ·refine ww1 (cj hp' <| cj g1 <| cj ht hB) ?_
       exact ⟨hx, bo_iff ⟨fun q => q.elim, fun q => by
         rcases q.2 with z | z
         ·exact ht z.1
         ·exact hB z.2.2.2.1⟩⟩
     ·refine ww1 (cj hp' <| cj g1 <| cj ht hA) ?_
      exact ⟨hx, bo_iff ⟨fun q => q.elim, fun q => by
         rcases q.2 with z | z
         ·exact ht z.1
         ·exact hA z.2.2.1⟩⟩
 ·refine ww1 (cj hp g1) ?_
  exact ⟨hx, bo_iff ⟨fun q => q.elim, fun q => hp q.1⟩⟩
theorem kind_spec (t : Int) (u : Bool) (ht : 0 ≤ t ∧ t < 256) (h : H) : Pure S.cfg 110 [.agg [.int .u8 t, .bool u]] h fun v _ => v = .int .i64 (kindF t u) := by
 refine into Tryz.f110 _ Tryz.func110 (hS.ownR _ (by decide)) rfl rfl (by kernel_rfl) (by kernel_rfl) ?_
 have hx0 := (Ext.refl h).push (.cells [.int .u8 t, .bool u] 108 false)
 refine wr1 @Tryz.f110.eq_1 ?_
 by_cases c1 : t = 1
 ·refine cond_yes (p := t = 1) (by exact wv0) c1 ?_
  refine wr0 ?_
  refine cond_yes (p := t = 1) (by exact wv0) c1 ?_
  refine ww0 ?_
  exact ⟨fun q => ⟨(Ext.refl h).push _, by subst c1; rfl⟩, fun q => ⟨(Ext.refl h).push _, by subst c1; rfl⟩⟩
 refine cond_no (p := t = 1) (by exact wv0) c1 ?_
 refine wr0 ?_
 by_cases c2 : t = 2
 ·refine cond_yes (p := t = 2) (by exact wv0) c2 ?_
  refine wr0 ?_
  refine cond_yes (p := t = 2) (by exact wv0) c2 ?_
  refine ww0 ?_
  exact ⟨fun q => ⟨(Ext.refl h).push _, by subst c2; rfl⟩, fun q => ⟨(Ext.refl h).push _, by subst c2; rfl⟩⟩
 refine cond_no (p := t = 2) (by exact wv0) c2 ?_
 refine wr0 ?_
 by_cases c13 : t = 13
 ·refine cond_yes (p := t = 13) (by exact wv0) c13 ?_
  refine wr0 ?_
  refine cond_yes (p := t = 13) (by exact wv0) c13 ?_
  refine ww0 ?_
  exact ⟨fun q => ⟨(Ext.refl h).push _, by subst c13; rfl⟩, fun q => ⟨(Ext.refl h).push _, by subst c13; rfl⟩⟩
 refine cond_no (p := t = 13) (by exact wv0) c13 ?_
 refine wr0 ?_
 by_cases c3 : t = 3
 ·refine cond_yes (p := t = 3) (by exact wv0) c3 ?_
  refine wr0 ?_
  refine cond_yes (p := t = 3) (by exact wv0) c3 ?_
  refine ww0 ?_
  exact ⟨fun q => ⟨(Ext.refl h).push _, by subst c3; rfl⟩, fun q => ⟨(Ext.refl h).push _, by subst c3; rfl⟩⟩
 refine cond_no (p := t = 3) (by exact wv0) c3 ?_
 refine wr0 ?_
 by_cases c9 : t = 9
 ·refine cond_yes (p := t = 9) (by exact wv0) c9 ?_
  refine wr0 ?_
  refine cond_yes (p := t = 9) (by exact wv0) c9 ?_
  refine ww0 ?_
  exact ⟨fun q => ⟨(Ext.refl h).push _, by subst c9; rfl⟩, fun q => ⟨(Ext.refl h).push _, by subst c9; rfl⟩⟩
 refine cond_no (p := t = 9) (by exact wv0) c9 ?_
 refine wr0 ?_
 by_cases c8 : t = 8
 ·refine cond_yes (p := t = 8) (by exact wv0) c8 ?_
  refine ww0 ?_
  exact ⟨fun q => ⟨(Ext.refl h).push _, by subst c8; rfl⟩, fun q => ⟨(Ext.refl h).push _, by subst c8; rfl⟩⟩
 refine cond_no (p := t = 8) (by exact wv0) c8 ?_
 refine wr0 ?_
 by_cases c4 : t = 4
 ·refine cond_yes (p := t = 4) (by exact wv0) c4 ?_
  refine ww0 ?_
  exact ⟨(Ext.refl h).push _, by subst c4; rfl⟩
 refine cond_no (p := t = 4) (by exact wv0) c4 ?_
 refine wr0 ?_
 by_cases c5 : t = 5
 ·refine cond_yes (p := t = 5) (by exact wv0) c5 ?_
  refine ww0 ?_
  exact ⟨(Ext.refl h).push _, by subst c5; rfl⟩
 refine cond_no (p := t = 5) (by exact wv0) c5 ?_
 refine wr0 ?_
 by_cases c7 : t = 7
 ·refine cond_yes (p := t = 7) (by exact wv0) c7 ?_
  refine wr0 ?_
  refine cond_yes (p := t = 7) (by exact wv0) c7 ?_
  refine ww0 ?_
  exact ⟨(Ext.refl h).push _, by subst c7; rfl⟩
 refine cond_no (p := t = 7) (by exact wv0) c7 ?_
 refine wr0 ?_
 by_cases c10 : t = 10
 ·refine cond_yes (p := t = 10) (by exact wv0) c10 ?_
  refine wr0 ?_
  refine cond_yes (p := t = 10) (by exact wv0) c10 ?_
  refine ww0 ?_
  exact ⟨(Ext.refl h).push _, by subst c10; rfl⟩
 refine cond_no (p := t = 10) (by exact wv0) c10 ?_
 refine wr0 ?_
 by_cases c12 : t = 12
 ·refine cond_yes (p := t = 12) (by exact wv0) c12 ?_
  refine ww0 ?_
  exact ⟨(Ext.refl h).push _, by subst c12; rfl⟩
 refine cond_no (p := t = 12) (by exact wv0) c12 ?_
 refine wr0 ?_
 by_cases c11 : t = 11
 ·refine cond_yes (p := t = 11) (by exact wv0) c11 ?_
  refine ww0 ?_
  exact ⟨(Ext.refl h).push _, by subst c11; rfl⟩
 refine cond_no (p := t = 11) (by exact wv0) c11 ?_
 refine wr0 ?_
 by_cases c6 : t = 6
 ·refine cond_yes (p := t = 6) (by exact wv0) c6 ?_
  refine ww0 ?_
  exact ⟨(Ext.refl h).push _, by subst c6; rfl⟩
 refine cond_no (p := t = 6) (by exact wv0) c6 ?_
 refine wr0 ?_
 refine callF_pure (known_spec hS t ht _) ?_
 rintro _ h1 hx rfl
 refine ww0 ?_
 have e : kindF t u = if knownP t then 7 else -1 := by unfold kindF; rw [if_neg (by omega), if_neg c4, if_neg c5, if_neg (by omega), if_neg c11, if_neg c6]
 exact ⟨fun q => ⟨hx0.trans hx, by rw [e, if_pos q]⟩, fun q => ⟨hx0.trans hx, by rw [e, if_neg q]⟩⟩
end
noncomputable section
def whenSz (t : Int) : List Int := if t = 11 then [0, 8, 12] else [0, 4, 7, 11]
def whenN (cs : List Nat) (i n : Nat) : Int := IntKind.i64.wrap (if (cs.drop i).length < n then 0 else rdX (cs.drop i) n)
def whenC (l : List Nat) : List Nat := ((l.take (1 + l.getD 0 0)).drop 1) ++ (List.replicate 13 0).drop ((l.take (1 + l.getD 0 0)).drop 1).length
def whenW (c : List Nat) (t : Int) : WH := if t = 11 then ⟨decide (byI c 0 = 1), 0, 0, whenN c 1 4, whenN c 5 1, whenN c 6 1, whenN c 7 1, whenN c 8 4⟩ else ⟨false, whenN c 0 2, whenN c 2 1, whenN c 3 1, whenN c 4 1, whenN c 5 1, whenN c 6 1, whenN c 7 4⟩
def whenF (l : List Nat) (t : Int) : WH × Int × Int :=
 @ite _ (l.length = 0) (Classical.propDecidable _) (WH.z, 0, 4) <|
 @ite _ (¬ byI l 0 ∈ whenSz t) (Classical.propDecidable _) (WH.z, 0, 5) <|
 @ite _ (l.length < 1 + l.getD 0 0) (Classical.propDecidable _) (WH.z, 0, 4) <|
 @ite _ (t = 11 ∧ 1 < byI (whenC l) 0) (Classical.propDecidable _) (WH.z, 0, 5) <|
 @ite _ (¬ fineP (whenW (whenC l) t) t) (Classical.propDecidable _) (WH.z, 0, 5) <|
 (whenW (whenC l) t, 1 + byI l 0, 0)
theorem whenSz_len (t : Int) : (whenSz t).length ≤ 4 := by unfold whenSz; split <;> decide
theorem whenF0 {l : List Nat} {t : Int} (h : l.length = 0) : whenF l t = (WH.z, 0, 4) := if_pos h
theorem whenF1 {l : List Nat} {t : Int} (h : ¬ l.length = 0) (h1 : ¬ byI l 0 ∈ whenSz t) : whenF l t = (WH.z, 0, 5) := by unfold whenF; rw [if_neg h, if_pos h1]
theorem whenF2 {l : List Nat} {t : Int} (h : ¬ l.length = 0) (h1 : byI l 0 ∈ whenSz t) (h2 : l.length < 1 + l.getD 0 0) : whenF l t = (WH.z, 0, 4) := by unfold whenF; rw [if_neg h, if_neg (fun q => q h1), if_pos h2]
theorem whenF3 {l : List Nat} {t : Int} (h : ¬ l.length = 0) (h1 : byI l 0 ∈ whenSz t) (h2 : ¬ l.length < 1 + l.getD 0 0) (h3 : t = 11 ∧ 1 < byI (whenC l) 0) : whenF l t = (WH.z, 0, 5) := by unfold whenF; rw [if_neg h, if_neg (fun q => q h1), if_neg h2, if_pos h3]
theorem whenF4 {l : List Nat} {t : Int} (h : ¬ l.length = 0) (h1 : byI l 0 ∈ whenSz t) (h2 : ¬ l.length < 1 + l.getD 0 0) (h3 : ¬ (t = 11 ∧ 1 < byI (whenC l) 0)) (h4 : ¬ fineP (whenW (whenC l) t) t) : whenF l t = (WH.z, 0, 5) := by unfold whenF; rw [if_neg h, if_neg (fun q => q h1), if_neg h2, if_neg h3, if_pos h4]
theorem whenF5 {l : List Nat} {t : Int} (h : ¬ l.length = 0) (h1 : byI l 0 ∈ whenSz t) (h2 : ¬ l.length < 1 + l.getD 0 0) (h3 : ¬ (t = 11 ∧ 1 < byI (whenC l) 0)) (h4 : fineP (whenW (whenC l) t) t) : whenF l t = (whenW (whenC l) t, 1 + byI l 0, 0) := by unfold whenF; rw [if_neg h, if_neg (fun q => q h1), if_neg h2, if_neg h3, if_neg (fun q => q h4)]
abbrev zWH : List V := [bo False, .int .i64 0, .int .i64 0, .int .i64 0, .int .i64 0, .int .i64 0, .int .i64 0, .int .i64 0]
theorem zWH_eq : WH.z.cells = zWH := by simp [WH.z, WH.cells, zWH, bo]
variable {S : Set0}
theorem copy_at {Ok : Nat → Prop} {env : Env} {h : H} {K : V → H → Fp → Prop} {d x : Operand} {b m : Nat} {v : V} {l cs : List Nat} (hd : evalE env d = .slice b 0 cs.length m) (hx : evalE env x = v) (a : BS 5 h v l) (hb : h.get b = some (.cells (bytesV cs) 5 false)) (hl : l.length ≤ cs.length) (hOk : h.nx ≤ b ∨ Ok b)
  (hK : ∀ h2 L, h2.nx = h.nx → h2.get b = some (.cells (bytesV (l ++ cs.drop l.length)) 5 false) → (∀ k, k ≠ b → h2.get k = h.get k) → K (.int .i64 l.length) h2 (.lg L)) : opW S.cfg Ok (.call ⟨.builtin .copy, #[d, x], #[25, 25]⟩) env h K := by
 refine copy_bs hd hx a hb hl hOk (fun L => hK _ _ rfl (put_eq rfl) fun k hk => put_ne hk) (fun q L => ?_)
 subst q
 exact hK _ _ rfl hb fun _ _ => rfl
variable (hS : StdR S)
include hS
theorem rwhen_spec {v : V} {l : List Nat} {h : H} (a : BS 5 h v l) (hl : l.length < 2 ^ 28) (t : Int) : Pure S.cfg 146 [v, .int .u8 t] h fun w _ => w = .tuple [.agg (whenF l t).1.cells, .int .i64 (whenF l t).2.1, .int .i64 (whenF l t).2.2] := by
 refine into Tryz.f146 _ Tryz.func146 (hS.ownR _ (by decide)) rfl rfl (by kernel_rfl) (by kernel_rfl) ?_
 have a1 := a.len 5
 by_cases h0 : l.length = 0
 ·rw [whenF0 h0, zWH_eq]
  refine ww1 (cj @Tryz.f146.eq_1 <| cj a1 h0) ?_
  exact ((((Ext.refl h).push _).push _).put (Nat.le_refl _) _)
 obtain ⟨b, o, m, hv, _, _⟩ := a.at (i := 0) (by omega)
 obtain ⟨_, hb, hrd⟩ := BS.rd (hv ▸ a)
 have hr := hrd 0 (by omega)
 rw [Nat.add_zero] at hr
 have hl0 : 0 < l.length := by omega
 have hb0 := byI_in a.1 0
 subst hv
 refine wr1 (cj @Tryz.f146.eq_1 <| cj a1 <| cj h0 <| cj hl0 hr) ?_
 refine cond_no (p := (l.length : Int) = 0) (by exact wv1 h0) (by omega) ?_
 refine wr1 (cj a1 <| cj h0 <| cj hl0 hr) ?_
 generalize hhA : H.push (H.push (H.push h _) _) _ = hA
 have hxA : Ext h hA := by rw [← hhA]; exact (((Ext.refl h).push _).push _).push _
 have hnA : hA.nx = h.nx + 3 := by rw [← hhA]; rfl
 have g0 : hA.get h.nx = some (.cells zWH 132 false) := by rw [← hhA, push_ne (by simp only [push_nx]; omega), push_ne (by simp only [push_nx]; omega)]; exact push_eq rfl
 have g1 : hA.get (h.nx + 1) = some (.cells zWH 132 false) := by rw [← hhA, push_ne (by simp only [push_nx]; omega)]; exact push_eq rfl
 have g2 : hA.get (h.nx + 2) = some (.cells [.int .i64 0, .int .i64 4, .int .i64 7, .int .i64 11] 3 false) := by rw [← hhA]; exact push_eq rfl
 clear hhA
 refine run_cut (fun env' h' => ∃ kb, env' 0 = .slice b o l.length m ∧ env' 1 = .int .u8 t ∧ env' 4 = .ptr h.nx 0 ∧ env' 7 = .ptr (h.nx + 1) 0 ∧ env' 8 = .int .i64 (byI l 0) ∧ env' 9 = .slice kb 0 (whenSz t).length (whenSz t).length ∧ h'.get h.nx = some (.cells zWH 132 false) ∧ h'.get (h.nx + 1) = some (.cells zWH 132 false) ∧ h'.get kb = some (.cells ((whenSz t).map fun x => .int .i64 x) 3 false) ∧ h.nx + 2 ≤ kb ∧ kb < h'.nx ∧ Ext h h') ?_ ?_
 ·have hw : IntKind.i64.wrap (byI l 0) = byI l 0 := i64_in _ (by omega)
  by_cases ht : t = 11
  ·have ht' := eq_true ht
   refine ww1 ht' ?_
   refine ⟨hA.nx, hw, ?_, g0, g1, ?_, by omega, by omega, hxA.push _⟩
   ·unfold whenSz; rw [if_pos ht]; rfl
   ·unfold whenSz; rw [if_pos ht]; exact push_eq rfl
  ·refine ww1 ht ?_
   refine ⟨h.nx + 2, hw, ?_, g0, g1, ?_, by omega, by omega, hxA⟩
   ·unfold whenSz; rw [if_neg ht]; rfl
   ·unfold whenSz; rw [if_neg ht]; exact g2
 clear g0 g1 g2 hxA hnA hA
 rintro env' hB ⟨kb, e0, e1, e4, e7, e8, e9, k0, k1, kk, kb1, kb2, hx⟩
 refine ww1 (cj e0 <| cj e1 <| cj e4 <| cj e7 <| cj e8 e9) ?_
 have hL := whenSz_len t
 have nB := hx.1
 refine run_loop (fun k env h' => ∃ i : Nat, k = 4 - i ∧ i ≤ (whenSz t).length ∧ h' = hB ∧ env 0 = .slice b o l.length m ∧ env 1 = .int .u8 t ∧ env 4 = .ptr h.nx 0 ∧ env 7 = .ptr (h.nx + 1) 0 ∧ env 8 = .int .i64 (byI l 0) ∧ env 10 = bo (byI l 0 ∈ (whenSz t).take i) ∧ env 27 = .slice kb 0 (whenSz t).length (whenSz t).length ∧ env 28 = .int .i64 (whenSz t).length ∧ env 29 = .int .i64 i) 4 ⟨0, ?_⟩ ?_
 ·refine ww0 ?_
  exact ⟨e0, e1, e4, e7, e8, bo_iff ⟨fun q => q.elim, fun q => by cases q⟩⟩
 rintro k env h' ⟨i, rfl, hi, rfl, e0, e1, e4, e7, e8, e10, e27, e28, e29⟩
 by_cases hin : i < (whenSz t).length
 ·have hin' : (i : Int) < (whenSz t).length := by omega
  have kr : rdV (some (1, false)) (h'.get kb) (0 + i) = some (.int .i64 ((whenSz t)[i]'hin)) := by
   rw [kk, Nat.zero_add, rdV_one, List.getElem?_map, List.getElem?_eq_getElem hin]
   rfl
  rw [Nat.zero_add] at kr
  refine ww1 (cj e0 <| cj e1 <| cj e4 <| cj e7 <| cj e8 <| cj e10 <| cj e27 <| cj e28 <| cj e29 <| cj hin <| cj hin' kr) ?_
  refine ⟨4 - (i + 1), by omega, i + 1, rfl, by omega, bo_iff ?_, rfl⟩
  rw [List.take_succ_eq_append_getElem hin]
  simp only [List.mem_append, List.mem_singleton]
 obtain rfl : i = (whenSz t).length := by omega
 rw [List.take_length] at e10
 have sub : ∀ {h2 : H}, Ext h h2 → Ext h (h2.put h.nx (.cells zWH 132 false)) := fun {h2} hx2 => hx2.put (Nat.le_refl _) _
 by_cases hk : byI l 0 ∈ whenSz t
 case neg =>
  rw [whenF1 h0 hk, zWH_eq]
  refine ww1 (cj e0 <| cj e1 <| cj e4 <| cj e7 <| cj e8 <| cj e10 <| cj e27 <| cj e28 <| cj e29 <| cj hin <| cj hk <| cj k1 k0) ?_
  exact sub hx
 have hk' := eq_true hk
 rw [hk'] at e10
 have hw1 : IntKind.i64.wrap (1 + byI l 0) = 1 + byI l 0 := i64_in _ (by omega)
 have hbn : byI l 0 = ((l.getD 0 0 : Nat) : Int) := rfl
 by_cases hs : l.length < 1 + l.getD 0 0
 ·rw [whenF2 h0 hk hs, zWH_eq]
  have hs' : (l.length : Int) < 1 + byI l 0 := by omega
  refine ww1 (cj e0 <| cj e1 <| cj e4 <| cj e7 <| cj e8 <| cj e10 <| cj e27 <| cj e28 <| cj e29 <| cj hin <| cj k1 <| cj k0 <| cj a1 <| cj hw1 hs') ?_
  exact sub hx
 have hs' : ¬ (l.length : Int) < 1 + byI l 0 := by omega
 refine ww1 (cj e0 <| cj e1 <| cj e4 <| cj e7 <| cj e8 <| cj e10 <| cj e27 <| cj e28 <| cj e29 <| cj hin <| cj k1 <| cj k0 <| cj a1 <| cj hw1 hs') ?_
 refine mk_bytes (n := 13) (by decide) (by exact wv0) ?_
 refine ww1 (cj e0 <| cj e1 <| cj e4 <| cj e7 e8) ?_
 generalize hhC : H.put (H.push (H.push h' _) _) _ _ = hC
 have hxC : Ext h' hC := by rw [← hhC]; exact (((Ext.refl h').push _).push _).put (by omega) _
 have hnC : hC.nx = h'.nx + 2 := by rw [← hhC]; rfl
 have gc : hC.get h'.nx = some (.cells (bytesV (List.replicate 13 0)) 5 false) := by rw [← hhC, put_ne (by omega), push_ne (by simp only [push_nx]; omega)]; exact push_eq rfl
 have gp : hC.get (h'.nx + 1) = some (.cells [.slice h'.nx 0 13 13] 25 false) := by rw [← hhC]; exact put_eq rfl
 clear hhC
 refine ⟨.inr (by omega), draw_by [] (by kernel_rfl) ?_⟩
 refine ww1 (cj e0 <| cj e1 <| cj e4 <| cj e7 <| cj e8 <| cj gp hw1) ?_
 have hj : 1 + byI l 0 = ((1 + l.getD 0 0 : Nat) : Int) := by omega
 refine mid_bs (i := 1) (j := 1 + l.getD 0 0) (a.ext (hx.trans hxC)) ubs szb (by exact wv0) (by exact wv0) (by exact wv1 hj) (by omega) (by omega) fun w L hw2 _ _ => ?_
 refine ww1 (cj e0 <| cj e1 <| cj e4 <| cj e7 <| cj e8 <| cj gp hw1) ?_
 have hle : ((l.take (1 + l.getD 0 0)).drop 1).length ≤ (List.replicate 13 0).length := by
  rw [List.length_drop, List.length_take, List.length_replicate]
  have : byI l 0 ≤ 12 := by
   unfold whenSz at hk
   split at hk <;> simp at hk <;> omega
  omega
 refine copy_at (b := h'.nx) (m := 13) (cs := List.replicate 13 0) (by simp +contextual (disch := first | exact dd | fail) only [wpy, fW, Int.reduceLE, Int.reduceLT, Nat.reduceLeDiff, UInt8.reduceToNat, ↓reduceIte, Nat.reduceEqDiff, Nat.reduceAdd, reduceCtorEq, Int.reduceToNat]; rfl) (by exact wv0) hw2 gc hle (.inr (by rw [fresh_def]; exact .inl (by omega))) fun hD L2 nD gD oD => ?_
 have hcl : (whenC l).length = 13 := by
  unfold whenC
  rw [List.length_append, List.length_drop (i := ((l.take (1 + l.getD 0 0)).drop 1).length)]
  rw [List.length_replicate] at hle ⊢
  omega
 have hcb : ∀ x ∈ whenC l, x < 256 := by
  intro x hx
  unfold whenC at hx
  rw [List.mem_append] at hx
  rcases hx with q | q
  ·exact a.1 x (List.mem_of_mem_take (List.mem_of_mem_drop q))
  ·have := List.mem_of_mem_drop q
   rw [List.mem_replicate] at this
   omega
 have gD : hD.get h'.nx = some (.cells (bytesV (whenC l)) 5 false) := gD
 have gpD : hD.get (h'.nx + 1) = some (.cells [.slice h'.nx 0 13 13] 25 false) := by rw [oD _ (by omega)]; exact gp
 have k0D : hD.get h.nx = some (.cells zWH 132 false) := by rw [oD _ (by omega), hxC.2 _ (by omega)]; exact k0
 have k1D : hD.get (h.nx + 1) = some (.cells zWH 132 false) := by rw [oD _ (by omega), hxC.2 _ (by omega)]; exact k1
 have hxD : Ext h hD := ⟨by omega, fun k hk => by rw [oD _ (by omega), hxC.2 _ (by omega), hx.2 _ hk]⟩
 have aC : BS 5 hD (.slice h'.nx 0 13 13) (whenC l) := ⟨hcb, .inr ⟨h'.nx, 0, 13, by rw [hcl], by omega, by omega, by rw [gD, hcl]; exact rdC_all (by rw [bytesV_length, hcl]), fun kc e' fl q qf => by rw [gD] at q; cases q; cases qf⟩⟩
 have crr := (BS.rd aC).2.2 0 (by omega)
 rw [Nat.add_zero] at crr
 clear k0 k1 gD gp gc oD hw2 hxC
 generalize hcd : whenC l = c at *
 have hno : 0 < 13 := by decide
 have nu : ∀ (i n : Nat) (hi : i ≤ 13) (hn : 1 ≤ n ∧ n ≤ 8), Exact S.cfg 157 [.int .i64 i, .int .i64 n, .ptr (h'.nx + 1) 0] hD (.int .i64 (whenN c i n)) := fun i n hi hn => number_spec hS gpD aC hcl i n hi hn
 refine wr1 (cj e0 <| cj e1 <| cj e4 <| cj e7 <| cj e8 gpD) ?_
 refine ⟨fun p hp => (by cases hp), ?_⟩
 refine run_cut (fun env' h2 => env' 1 = .int .u8 t ∧ env' 4 = .ptr h.nx 0 ∧ env' 7 = .ptr (h.nx + 1) 0 ∧ env' 8 = .int .i64 (byI l 0) ∧ ¬ (t = 11 ∧ 1 < byI c 0) ∧ h2 = hD.put (h.nx + 1) (.cells (whenW c t).cells 132 false)) ?_ ?_
 ·by_cases ht : t = 11
  ·refine cond_yes (p := t = 11) (by exact wv0) ht ?_
   by_cases hc1 : 1 < byI c 0
   ·rw [whenF3 h0 hk hs ⟨ht, by rw [hcd]; exact hc1⟩, zWH_eq]
    have hc1' := eq_true hc1
    refine ww1 (cj e0 <| cj e1 <| cj e4 <| cj e7 <| cj e8 <| cj gpD <| cj crr <| cj hno <| cj hc1' <| cj k1D k0D) ?_
    exact sub hxD
   refine wr1 (cj e0 <| cj e1 <| cj e4 <| cj e7 <| cj e8 <| cj gpD <| cj crr <| cj hno <| cj hc1 k1D) ?_
   refine cond_no (p := 1 < byI c 0) (by exact wv1 hc1) hc1 ?_
   refine wr1 (cj e0 <| cj e1 <| cj e4 <| cj e7 <| cj e8 <| cj gpD <| cj crr <| cj hno <| cj hc1 k1D) ?_
   refine draw_by [(0, 5), (2, 5), (0, 7), (2, 7), (0, 9), (2, 9), (0, 11), (2, 11), (0, 13), (2, 13)] (by kernel_rfl) ?_
   refine wr1 (cj e0 <| cj e1 <| cj e4 <| cj e7 <| cj e8 <| cj gpD <| cj crr <| cj hno <| cj hc1 k1D) ?_
   refine callF_exact (nu 1 4 (by decide) (by decide)) ?_
   refine wr1 (cj e0 <| cj e1 <| cj e4 <| cj e7 <| cj e8 <| cj gpD <| cj crr k1D) ?_
   refine callF_exact (nu 5 1 (by decide) (by decide)) ?_
   refine wr1 (cj e0 <| cj e1 <| cj e4 <| cj e7 <| cj e8 <| cj gpD <| cj crr k1D) ?_
   refine callF_exact (nu 6 1 (by decide) (by decide)) ?_
   refine wr1 (cj e0 <| cj e1 <| cj e4 <| cj e7 <| cj e8 <| cj gpD <| cj crr k1D) ?_
   refine callF_exact (nu 7 1 (by decide) (by decide)) ?_
   refine wr1 (cj e0 <| cj e1 <| cj e4 <| cj e7 <| cj e8 <| cj gpD <| cj crr k1D) ?_
   refine callF_exact (nu 8 4 (by decide) (by decide)) ?_
   refine wr1 (cj e0 <| cj e1 <| cj e4 <| cj e7 <| cj e8 <| cj gpD <| cj crr k1D) ?_
   have rc : ∀ k, k < hD.nx → fpApart (.lg (ldL (some (1, false)) (.ptr k 0))) (.cl hD.nx hD.nx nil1) := fun k hk e he => by
    rw [List.mem_singleton.1 he]
    exact ⟨rfl, .inr hk, fun q => q.elim⟩
   refine ⟨.inr (by omega), fun p hp => ?_, ?_⟩
   ·simp only [List.mem_cons, List.not_mem_nil, or_false] at hp
    rcases hp with rfl | rfl | rfl | rfl | rfl | rfl | rfl | rfl | rfl | rfl
    all_goals first | exact pair_one rfl rfl (rc _ (by omega))
   ·congr 2
    unfold whenW
    rw [if_pos ht]
    simp [WH.cells, bo]
  ·refine cond_no (p := t = 11) (by exact wv0) ht ?_
   refine wr1 (cj e0 <| cj e1 <| cj e4 <| cj e7 <| cj e8 <| cj gpD crr) ?_
   refine callF_exact (nu 0 2 (by decide) (by decide)) ?_
   refine wr1 (cj e0 <| cj e1 <| cj e4 <| cj e7 <| cj e8 <| cj gpD <| cj crr k1D) ?_
   refine callF_exact (nu 2 1 (by decide) (by decide)) ?_
   refine wr1 (cj e0 <| cj e1 <| cj e4 <| cj e7 <| cj e8 <| cj gpD <| cj crr k1D) ?_
   refine callF_exact (nu 3 1 (by decide) (by decide)) ?_
   refine wr1 (cj e0 <| cj e1 <| cj e4 <| cj e7 <| cj e8 <| cj gpD <| cj crr k1D) ?_
   refine callF_exact (nu 4 1 (by decide) (by decide)) ?_
   refine wr1 (cj e0 <| cj e1 <| cj e4 <| cj e7 <| cj e8 <| cj gpD <| cj crr k1D) ?_
   refine callF_exact (nu 5 1 (by decide) (by decide)) ?_
   refine wr1 (cj e0 <| cj e1 <| cj e4 <| cj e7 <| cj e8 <| cj gpD <| cj crr k1D) ?_
   refine callF_exact (nu 6 1 (by decide) (by decide)) ?_
   refine wr1 (cj e0 <| cj e1 <| cj e4 <| cj e7 <| cj e8 <| cj gpD <| cj crr k1D) ?_
   refine callF_exact (nu 7 4 (by decide) (by decide)) ?_
   refine wr1 (cj e0 <| cj e1 <| cj e4 <| cj e7 <| cj e8 <| cj gpD <| cj crr k1D) ?_
   have hWc : (whenW c t).cells = [bo False, .int .i64 (whenN c 0 2), .int .i64 (whenN c 2 1), .int .i64 (whenN c 3 1), .int .i64 (whenN c 4 1), .int .i64 (whenN c 5 1), .int .i64 (whenN c 6 1), .int .i64 (whenN c 7 4)] := by unfold whenW; rw [if_neg ht]; simp [WH.cells, bo]
   rw [hWc]
   exact ⟨.inr (by omega), fun q => ht q.1, rfl⟩
 rintro env2 h2 ⟨f1, f4, f7, f8, hc1, rfl⟩
 by_cases hf : fineP (whenW c t) t
 ·rw [whenF5 h0 hk hs (by rw [hcd]; exact hc1) (by rw [hcd]; exact hf), hcd]
  generalize whenW c t = w at *
  have fs := fine_spec hS w t (hD.put (h.nx + 1) (.cells w.cells 132 false))
  have hxF : Ext h (hD.put (h.nx + 1) (.cells w.cells 132 false)) := hxD.put (by omega) _
  have k0F : (hD.put (h.nx + 1) (.cells w.cells 132 false)).get h.nx = some (.cells zWH 132 false) := by rw [put_ne (by omega)]; exact k0D
  have k1F : (hD.put (h.nx + 1) (.cells w.cells 132 false)).get (h.nx + 1) = some (.cells w.cells 132 false) := put_eq rfl
  have nF : (hD.put (h.nx + 1) (.cells w.cells 132 false)).nx = hD.nx := rfl
  generalize hD.put (h.nx + 1) (.cells w.cells 132 false) = hF at *
  unfold WH.cells at fs k1F ⊢
  refine ww1 (cj f1 <| cj f4 <| cj f7 <| cj f8 k1F) ?_
  refine callF_pure fs ?_
  rintro _ hE hxE rfl
  have k1E := hxE.2 (h.nx + 1) (by omega)
  have k0E := hxE.2 h.nx (by omega)
  rw [k1F] at k1E
  rw [k0F] at k0E
  have hf' := eq_true hf
  refine ww1 (cj f1 <| cj f4 <| cj f7 <| cj f8 <| cj k1E <| cj k0E <| cj hf' hw1) ?_
  exact (hxF.trans hxE).put (Nat.le_refl _) _
 ·rw [whenF4 h0 hk hs (by rw [hcd]; exact hc1) (by rw [hcd]; exact hf), zWH_eq]
  generalize whenW c t = w at *
  have fs := fine_spec hS w t (hD.put (h.nx + 1) (.cells w.cells 132 false))
  have hxF : Ext h (hD.put (h.nx + 1) (.cells w.cells 132 false)) := hxD.put (by omega) _
  have k0F : (hD.put (h.nx + 1) (.cells w.cells 132 false)).get h.nx = some (.cells zWH 132 false) := by rw [put_ne (by omega)]; exact k0D
  have k1F : (hD.put (h.nx + 1) (.cells w.cells 132 false)).get (h.nx + 1) = some (.cells w.cells 132 false) := put_eq rfl
  have nF : (hD.put (h.nx + 1) (.cells w.cells 132 false)).nx = hD.nx := rfl
  generalize hD.put (h.nx + 1) (.cells w.cells 132 false) = hF at *
  unfold WH.cells at fs k1F
  refine ww1 (cj f1 <| cj f4 <| cj f7 <| cj f8 k1F) ?_
  refine callF_pure fs ?_
  rintro _ hE hxE rfl
  have k0E := hxE.2 h.nx (by omega)
  rw [k0F] at k0E
  refine ww1 (cj f1 <| cj f4 <| cj f7 <| cj f8 <| cj k0E <| cj hf hw1) ?_
  exact sub (hxF.trans hxE)
end
noncomputable section
structure VL where
 k : Int
 i : Int
 u : Int
 s : List Nat
 w : WH
def VL.cells (x : VL) : List V := [.int .i64 x.k, .int .i64 x.i, .int .u64 x.u, .str x.s] ++ x.w.cells
def VL.z : VL := ⟨0, 0, 0, [], WH.z⟩
abbrev zVL : List V := [.int .i64 0, .int .i64 0, .int .u64 0, .str [], bo False, .int .i64 0, .int .i64 0, .int .i64 0, .int .i64 0, .int .i64 0, .int .i64 0, .int .i64 0]
theorem zVL_eq : VL.z.cells = zVL := by simp [VL.z, VL.cells, WH.z, WH.cells, bo]
theorem vlz (k i u : Int) (s : List Nat) : (⟨k, i, u, s, WH.z⟩ : VL).cells = [.int .i64 k, .int .i64 i, .int .u64 u, .str s, bo False, .int .i64 0, .int .i64 0, .int .i64 0, .int .i64 0, .int .i64 0, .int .i64 0, .int .i64 0] := by simp [VL.cells, WH.z, WH.cells, bo]
theorem k60 : ((6 : Int) = 0) = False := by decide
theorem k65 : ((6 : Int) = 5) = False := by decide
theorem k70 : ((7 : Int) = 0) = False := by decide
theorem k75 : ((7 : Int) = 5) = False := by decide
theorem k76 : ((7 : Int) = 6) = False := by decide
def sgnF (x : Int) (n : Nat) : Int := iShr .i64 (IntKind.i64.wrap (iShl .u64 x (64 - 8 * (n : Int)))) (64 - 8 * (n : Int))
def readF (l : List Nat) (t : Int) (u : Bool) : VL × Int × Int :=
 if kindF t u = -1 then (VL.z, 0, 2) else
 if kindF t u = 0 then (VL.z, 0, 0) else
 if kindF t u = 5 ∨ kindF t u = 6 then (if (whenF l t).2.2 ≠ 0 then (VL.z, 0, (whenF l t).2.2) else (⟨kindF t u, 0, 0, [], (whenF l t).1⟩, (whenF l t).2.1, 0)) else
 if kindF t u = 7 then (if (txF l).2.2 ≠ 0 then (VL.z, 0, (txF l).2.2) else if 16777216 < (txF l).1.length then (VL.z, 0, 5) else (⟨7, 0, 0, (txF l).1, WH.z⟩, (txF l).2.1, 0)) else
 if l.length < sizeF t then (VL.z, 0, 4) else
 if kindF t u = 1 then (⟨1, sgnF (rdX l (sizeF t)) (sizeF t), 0, [], WH.z⟩, sizeF t, 0) else (⟨kindF t u, 0, rdX l (sizeF t), [], WH.z⟩, sizeF t, 0)
theorem kind_size {t : Int} {u : Bool} (h1 : kindF t u ≠ -1) (h2 : kindF t u ≠ 0) (h3 : ¬ (kindF t u = 5 ∨ kindF t u = 6)) (h4 : kindF t u ≠ 7) : 1 ≤ sizeF t ∧ sizeF t ≤ 8 := by
 refine ⟨?_, sizeF_le t⟩
 unfold kindF at h1 h2 h3 h4
 unfold sizeF
 split at h1 <;> (repeat' split at h1) <;> (repeat' split) <;> simp_all <;> omega
variable {S : Set0} (hS : StdR S)
include hS
theorem vread_spec {v : V} {l : List Nat} {h : H} (a : BS 5 h v l) (hl : l.length < 2 ^ 28) (t : Int) (u : Bool) (ht : 0 ≤ t ∧ t < 256) : Pure S.cfg 113 [v, .agg [.int .u8 t, .bool u]] h fun w _ => w = .tuple [.agg (readF l t u).1.cells, .int .i64 (readF l t u).2.1, .int .i64 (readF l t u).2.2] := by
 refine into Tryz.f113 _ Tryz.func113 (hS.ownR _ (by decide)) rfl rfl (by kernel_rfl) (by kernel_rfl) ?_
 refine ww1 @Tryz.f113.eq_1 ?_
 refine callF_pure (kind_spec hS t u ht _) ?_
 rintro _ h1 hx rfl
 have n1 := hx.1
 have g0 : h1.get h.nx = some (.cells [.int .u8 t, .bool u] 108 false) := by rw [hx.2 _ (by simp only [push_nx]; omega), push_ne (by simp only [push_nx]; omega)]; exact push_eq rfl
 have g1 : h1.get (h.nx + 1) = some (.cells zVL 134 false) := by rw [hx.2 _ (by simp only [push_nx]; omega)]; exact push_eq rfl
 have hxh : Ext h h1 := (((Ext.refl h).push _).push _).trans hx
 simp only [push_nx] at n1
 have hp : ∀ cs, Ext h (h1.put (h.nx + 1) cs) := fun cs => hxh.put (by omega) cs
 unfold readF
 by_cases c1 : kindF t u = -1
 ·rw [if_pos c1, zVL_eq]
  refine ww1 (cj c1 <| cj g0 g1) ?_
  exact ⟨.inr (by omega), hp _⟩
 rw [if_neg c1]
 by_cases c2 : kindF t u = 0
 ·rw [if_pos c2, zVL_eq]
  refine ww1 (cj c2 <| cj g0 g1) ?_
  exact ⟨.inr (by omega), hp _⟩
 rw [if_neg c2]
 by_cases c3 : kindF t u = 5 ∨ kindF t u = 6
 ·rw [if_pos c3]
  have rw2 := rwhen_spec hS (a.ext hxh) hl t
  generalize whenF l t = r at rw2 ⊢
  obtain ⟨w, n, e⟩ := r
  rcases c3 with c5 | c5
  all_goals
   refine ww1 (cj g0 <| cj g1 <| cj c5 <| cj n50 <| cj k60 k65) ?_
   refine callF_pure rw2 ?_
   rintro _ h2 hx2 rfl
   have n2 := hx2.1
   have g2 : h2.get (h.nx + 1) = some (.cells zVL 134 false) := by rw [hx2.2 _ (by omega)]; exact g1
   have hp2 : ∀ cs o o2, Ext h (((h2.push o).put h2.nx o2).put (h.nx + 1) cs) := fun cs o o2 => (((hxh.trans hx2).push o).put (by omega) o2).put (by omega) cs
   by_cases he : e = 0
   ·subst he
    rw [if_neg (fun q => q rfl)]
    unfold VL.cells WH.cells
    refine ww1 (cj c5 g2) ?_
    exact ⟨.inr (by omega), .inr (by omega), hp2 _ _ _⟩
   ·unfold WH.cells
    rw [if_pos he]
    refine ww1 (cj c5 <| cj g2 he) ?_
    rw [zVL_eq]
    exact ⟨.inr (by omega), .inr (by omega), hp2 _ _ _, rfl⟩
 rw [if_neg c3]
 have c5 : ¬ kindF t u = 5 := fun q => c3 (.inl q)
 have c6 : ¬ kindF t u = 6 := fun q => c3 (.inr q)
 by_cases c7 : kindF t u = 7
 ·rw [if_pos c7]
  have rt := rtx_spec hS.toStdB (a.ext hxh) (by omega)
  generalize txF l = r at rt ⊢
  obtain ⟨s, n, e⟩ := r
  refine ww1 (cj g0 <| cj g1 <| cj c7 <| cj k70 <| cj k75 k76) ?_
  refine callF_exact rt ?_
  by_cases he : e = 0
  ·subst he
   by_cases hs : 16777216 < s.length
   ·rw [if_neg (fun q => q rfl), if_pos hs]
    have hs' : (16777216 : Int) < s.length := by omega
    refine ww1 (cj c7 <| cj g1 <| cj hs' n50) ?_
    exact ⟨.inr (by omega), hp _, by rw [zVL_eq]⟩
   ·rw [if_neg (fun q => q rfl), if_neg hs]
    have hs' : ¬ (16777216 : Int) < s.length := by omega
    refine ww1 (cj c7 <| cj g1 <| cj hs' n50) ?_
    exact ⟨.inr (by omega), hp _, by rw [vlz]⟩
  ·rw [if_pos he]
   refine ww1 (cj c7 <| cj g1 he) ?_
   exact ⟨.inr (by omega), hp _, by rw [zVL_eq]⟩
 rw [if_neg c7]
 have hz := kind_size c1 c2 c3 c7
 refine ww1 (cj g0 <| cj g1 <| cj c1 <| cj c2 <| cj c5 <| cj c6 c7) ?_
 refine callF_pure (vsize_spec hS t _) ?_
 rintro _ h2 hx2 rfl
 have n2 := hx2.1
 have g2 : h2.get (h.nx + 1) = some (.cells zVL 134 false) := by rw [hx2.2 _ (by omega)]; exact g1
 have hp2 : ∀ cs, Ext h (h2.put (h.nx + 1) cs) := fun cs => (hxh.trans hx2).put (by omega) cs
 refine wr0 ?_
 refine callF_exact (rfx_spec hS.toStdB (a.ext (hxh.trans hx2)) (by omega) (sizeF t) hz) ?_
 by_cases h5 : l.length < sizeF t
 ·rw [if_pos h5, if_pos h5, if_pos h5, zVL_eq]
  refine ww1 (cj g2 n40) ?_
  exact ⟨.inr (by omega), hp2 _⟩
 rw [if_neg h5, if_neg h5, if_neg h5]
 have w1 : IntKind.i64.wrap (8 * (sizeF t : Int)) = 8 * (sizeF t : Int) := i64_in _ (by omega)
 have w2 : IntKind.i64.wrap (64 - 8 * (sizeF t : Int)) = 64 - 8 * (sizeF t : Int) := i64_in _ (by omega)
 have w3 : ¬ (64 - 8 * (sizeF t : Int) < 0) := by omega
 by_cases c8 : kindF t u = 1
 ·rw [if_pos c8]
  refine ww1 (cj g2 <| cj c8 <| cj w1 <| cj w2 w3) ?_
  exact ⟨.inr (by omega), hp2 _, by rw [vlz]; rfl⟩
 rw [if_neg c8]
 refine ww1 (cj g2 c8) ?_
 exact ⟨.inr (by omega), hp2 _, by rw [vlz]⟩
end
noncomputable section
def rtE : Nat → List Nat → Int
 | 0, l => if 0 < l.length then 5 else 0
 | n + 1, l => if 0 < l.length ∧ byI l 0 = 251 then rtE n (l.drop 1) else if (txF l).2.2 ≠ 0 then (txF l).2.2 else if 16777216 < (txF l).1.length then 5 else rtE n (l.drop (txF l).2.1)
theorem src_new {h : H} {cs : List V} {e k n sz : Nat} {p : Bool} (hk : k = h.nx) (hl : cs.length = n * sz) : Src (h.push (.cells cs e p)) (.slice k 0 n n) cs sz := .inr ⟨k, 0, n, n, rfl, by subst hk; exact Nat.lt_succ_self _, by rw [push_eq hk, rdC_all hl], hl⟩
theorem ap92' : apI Tryz.prog 92 = some (134, 12, 104) := ap92
theorem lst_form {n0 e sz : Nat} {h : H} {v : V} {cells : List V} (a : Lst n0 h v cells e sz) : v.cells = [v] ∧ v.isCell = true := by
 rcases a with (⟨rfl, _⟩ | ⟨b, n, _, _, rfl, _⟩) | ⟨_, b, _, _, rfl, _⟩ <;> exact ⟨rfl, rfl⟩
theorem bs_low {e n0 : Nat} {h h2 : H} {w : V} {l : List Nat} (aw : BS e h w l) (ow : ∀ k, n0 ≤ k → Off w k) (hn : h.nx ≤ h2.nx) (hk : ∀ k, k < n0 → h2.get k = h.get k) : BS e h2 w l := aw.keep hn fun k _ ⟨o, n, m, q⟩ => hk k (Classical.byContradiction fun u => ow k (by omega) o n m q)
theorem blk_low {n0 : Nat} {w : V} {k o n m : Nat} (ow : ∀ k, n0 ≤ k → Off w k) (q : w = .slice k o n m) : k < n0 := Classical.byContradiction fun u => ow k (by omega) o n m q
theorem ap_rd {n0 : Nat} {L M : List LE} {w : V} (hL : ∀ x ∈ L, n0 ≤ blkOf x) (ow : ∀ k, n0 ≤ k → Off w k) (hM : ∀ x ∈ M, x.isW = false ∧ ∃ o n m, w = .slice (blkOf x) o n m) : fpApart (.lg L) (.lg M) := apart_blk fun x hx y hy q => by
 obtain ⟨_, o, n, m, e⟩ := hM y hy
 have := hL x hx
 have := blk_low ow e
 omega
theorem ap_low {n0 n1 n2 e sz kx a b c : Nat} {h : H} {L : List LE} {sv : V} {cs : List V} (hs : Lst n0 h sv cs e sz) (hkx : n0 ≤ kx) (hn1 : n0 ≤ n1) (hL : ∀ le ∈ L, ((∃ o n m, V.slice kx a b c = .slice (blkOf le) o n m) ∧ le.isW = false) ∨ (n1 ≤ blkOf le ∧ blkOf le < n2) ∨ ∃ o n m, sv = .slice (blkOf le) o n m) : ∀ x ∈ L, n0 ≤ blkOf x := fun x hx => by
 rcases hL x hx with ⟨⟨o, n, m, q⟩, _⟩ | q | ⟨o, n, m, q⟩
 ·injection q with q1; omega
 ·omega
 ·exact Classical.byContradiction fun u => hs.off _ (by omega) _ _ _ q
variable {S : Set0} (hS : StdR S)
include hS
theorem rtext_spec {v : V} {l : List Nat} {h : H} (a : BS 5 h v l) (hl : l.length < 2 ^ 28) (n : Nat) (hn : n ≤ 4096) : Pure S.cfg 71 [v, .int .i64 n] h fun w _ => ∃ rv, rv.cells = [rv] ∧ rv.isCell = true ∧ w = .tuple [rv, .int .i64 (rtE n l)] := by
 refine into Tryz.f71 _ Tryz.func71 (hS.ownR _ (by decide)) rfl rfl (by kernel_rfl) (by kernel_rfl) ?_
 have hn1 : ¬ ((n : Int) < 0) := by omega
 have hn2 : ¬ ((4096 : Int) < n) := by omega
 refine ww1 (cj @Tryz.f71.eq_1 <| cj hn1 hn2) ?_
 refine run_loop (fun k env h' => ∃ i : Nat, k = n - i ∧ i ≤ n ∧ env 16 = .int .i64 n ∧ env 17 = .int .i64 i ∧ Ext h h' ∧ ∃ w li rv cs, env 0 = w ∧ env 6 = rv ∧ BS 5 h' w li ∧ (∀ k, h.nx ≤ k → Off w k) ∧ li.length < 2 ^ 28 ∧ Lst h.nx h' rv cs 134 12 ∧ cs.length = i * 12 ∧ rtE n l = rtE (n - i) li) n ⟨0, ?_⟩ ?_
 ·refine ww0 ?_
  exact ⟨(Nat.sub_zero n).symm, Ext.refl h, v, l, .nilslice, [], rfl, rfl, a, fun k hk => a.off hk, hl, .inl (.inl ⟨rfl, rfl⟩), rfl, rfl⟩
 rintro k env h' ⟨i, rfl, hi, e16, e17, hx, w, li, rv, cs, e0, e6, aw, ow, hli, hrv, hcs, hrt⟩
 have nx := hx.1
 obtain ⟨c1, c2⟩ := lst_form hrv
 have a1 := aw.len 5
 by_cases hin : i < n
 ·have hin' : (i : Int) < n := by omega
  have hs : n - i = (n - (i + 1)) + 1 := by omega
  rw [hs, rtE] at hrt
  have nxt : ∀ (w2 : V) (L : List LE) (h3 : H), True := fun _ _ _ => trivial
  by_cases h251 : 0 < li.length ∧ byI li 0 = 251
  ·rw [if_pos h251] at hrt
   have hl0 := eq_true h251.1
   have hb1 := eq_true h251.2
   obtain ⟨b, o, m, hv, _, _⟩ := aw.at (i := 0) h251.1
   obtain ⟨_, hb, hrd⟩ := BS.rd (hv ▸ aw)
   have hr := hrd 0 h251.1
   rw [Nat.add_zero] at hr
   refine ww1 (cj e16 <| cj e17 <| cj e0 <| cj e6 <| cj hin <| cj hin' <| cj a1 <| cj hv <| cj hr <| cj hl0 hb1) ?_
   refine draw_by [(2, 5), (3, 5)] (by kernel_rfl) ?_
   refine ww1 (cj e16 <| cj e17 <| cj e0 e6) ?_
   generalize hhB : H.push h' _ = hB
   have hxB : Ext h' hB := by rw [← hhB]; exact (Ext.refl h').push _
   have hnB : hB.nx = h'.nx + 1 := by rw [← hhB]; rfl
   have sB : Src hB (.slice h'.nx 0 1 1) zVL 12 := by rw [← hhB]; exact src_new rfl rfl
   clear hhB
   refine append_lst (n0 := h.nx) (sv := rv) (xv := .slice h'.nx 0 1 1) (cells := cs) (new := zVL) ?_ ?_ ap92' ⟨.slice 134, by kernel_rfl, rfl⟩ (hrv.ext hxB) sB rfl ?_ (by decide) (fun k hk => by rw [fresh_def]; exact .inl hk) (by omega) ?_
   ·exact wv1 e6
   ·exact wv0
   ·rw [hcs]; show _ + 12 ≤ _; omega
   intro v2 h2 L2 hl2 hn2 _ hk2 hL2
   have aw2 := bs_low (h2 := h2) aw ow (by omega) fun k hk => by rw [hk2 k hk, hxB.2 k (by omega)]
   refine ww1 (cj e16 <| cj e17 <| cj e0 e6) ?_
   refine drop_bs (i := 1) aw2 ubs szb (by exact wv1 e0) (by exact wv0) h251.1 fun w3 L3 hw3 hoff hL3 => ?_
   refine ww1 (cj e16 <| cj e17 <| cj e0 e6) ?_
   refine ⟨fun p hp => ?_, n - (i + 1), by omega, i + 1, rfl, by omega, rfl, ⟨by omega, fun k hk => by rw [hk2 k hk, hxB.2 k (by omega), hx.2 k hk]⟩, w3, li.drop 1, v2, cs ++ zVL, rfl, rfl, hw3, fun k hk => hoff k (ow k hk), ?_, hl2, ?_, hrt⟩
   ·simp only [List.mem_cons, List.not_mem_nil, or_false] at hp
    have lo := ap_low hrv (by omega) (by omega) hL2
    rcases hp with rfl | rfl
    ·exact pair_one rfl rfl (ap_rd (fun x hx => by rw [List.mem_singleton.1 hx]; exact nx) ow hL3)
    ·exact pair_one rfl rfl (ap_rd lo ow hL3)
   ·rw [List.length_drop]; omega
   ·rw [List.length_append, hcs]; show _ + 12 = _; omega
  ·rw [if_neg h251] at hrt
   have rt := rtx_spec hS.toStdB aw (by omega)
   have hi := txF_ok aw.1
   generalize htx : txF li = r at rt hrt hi
   obtain ⟨s, kk, e⟩ := r
   by_cases hl0 : 0 < li.length
   ·have hb1 : ¬ byI li 0 = 251 := fun q => h251 ⟨hl0, q⟩
    obtain ⟨b, o, m, hv, _, _⟩ := aw.at (i := 0) hl0
    obtain ⟨_, hb, hrd⟩ := BS.rd (hv ▸ aw)
    have hr := hrd 0 hl0
    rw [Nat.add_zero] at hr
    have hl0' := eq_true hl0
    subst hv
    refine ww1 (cj e16 <| cj e17 <| cj e0 <| cj e6 <| cj hin <| cj hin' <| cj a1 <| cj hr <| cj hl0' hb1) ?_
    refine callF_exact rt ?_
    by_cases he : e = 0
    case neg =>
     rw [if_pos he] at hrt
     refine ww1 he ?_
     exact ⟨hx, _, rfl, rfl, by rw [hrt]⟩
    subst he
    rw [if_neg (fun q => q rfl)] at hrt
    by_cases hs : 16777216 < s.length
    ·rw [if_pos hs] at hrt
     have hs' : (16777216 : Int) < s.length := by omega
     refine ww1 hs' ?_
     exact ⟨hx, _, rfl, rfl, by rw [hrt]⟩
    rw [if_neg hs] at hrt
    have hs' : ¬ (16777216 : Int) < s.length := by omega
    refine ww1 (cj hs' <| cj e16 <| cj e17 <| cj e0 e6) ?_
    refine draw_by [(3, 7), (4, 7)] (by kernel_rfl) ?_
    refine ww1 (cj e16 <| cj e17 <| cj e0 e6) ?_
    generalize hhB : H.push h' _ = hB
    have hxB : Ext h' hB := by rw [← hhB]; exact (Ext.refl h').push _
    have hnB : hB.nx = h'.nx + 1 := by rw [← hhB]; rfl
    have sB : Src hB (.slice h'.nx 0 1 1) [.int .i64 7, .int .i64 0, .int .u64 0, .str s, bo False, .int .i64 0, .int .i64 0, .int .i64 0, .int .i64 0, .int .i64 0, .int .i64 0, .int .i64 0] 12 := by rw [← hhB]; exact src_new rfl rfl
    clear hhB
    refine append_lst (n0 := h.nx) (sv := rv) (xv := .slice h'.nx 0 1 1) (cells := cs) (new := [.int .i64 7, .int .i64 0, .int .u64 0, .str s, bo False, .int .i64 0, .int .i64 0, .int .i64 0, .int .i64 0, .int .i64 0, .int .i64 0, .int .i64 0]) ?_ ?_ ap92' ⟨.slice 134, by kernel_rfl, rfl⟩ (hrv.ext hxB) sB rfl ?_ (by decide) (fun k hk => by rw [fresh_def]; exact .inl hk) (by omega) ?_
    ·exact wv1 e6
    ·exact wv0
    ·rw [hcs]; show _ + 12 ≤ _; omega
    intro v2 h2 L2 hl2 hn2 _ hk2 hL2
    have aw2 := bs_low (h2 := h2) aw ow (by omega) fun k hk => by rw [hk2 k hk, hxB.2 k (by omega)]
    refine ww1 (cj e16 <| cj e17 <| cj e0 e6) ?_
    refine drop_bs (i := kk) aw2 ubs szb (by exact wv1 e0) (by exact wv0) hi.1 fun w3 L3 hw3 hoff hL3 => ?_
    refine ww1 (cj e16 <| cj e17 <| cj e0 e6) ?_
    refine ⟨fun p hp => ?_, n - (i + 1), by omega, i + 1, rfl, by omega, rfl, ⟨by omega, fun k hk => by rw [hk2 k hk, hxB.2 k (by omega), hx.2 k hk]⟩, w3, li.drop kk, v2, _, rfl, rfl, hw3, fun k hk => hoff k (ow k hk), ?_, hl2, ?_, hrt⟩
    ·simp only [List.mem_cons, List.not_mem_nil, or_false] at hp
     have lo := ap_low hrv (by omega) (by omega) hL2
     rcases hp with rfl | rfl
     ·exact pair_one rfl rfl (ap_rd (fun x hx => by rw [List.mem_singleton.1 hx]; exact nx) ow hL3)
     ·exact pair_one rfl rfl (ap_rd lo ow hL3)
    ·rw [List.length_drop]; omega
    ·rw [List.length_append, hcs]; show _ + 12 = _; omega
   ·refine ww1 (cj e16 <| cj e17 <| cj e0 <| cj e6 <| cj hin <| cj hin' <| cj a1 hl0) ?_
    refine callF_exact rt ?_
    by_cases he : e = 0
    case neg =>
     rw [if_pos he] at hrt
     refine ww1 he ?_
     exact ⟨hx, _, rfl, rfl, by rw [hrt]⟩
    subst he
    rw [if_neg (fun q => q rfl)] at hrt
    by_cases hs : 16777216 < s.length
    ·rw [if_pos hs] at hrt
     have hs' : (16777216 : Int) < s.length := by omega
     refine ww1 hs' ?_
     exact ⟨hx, _, rfl, rfl, by rw [hrt]⟩
    rw [if_neg hs] at hrt
    have hs' : ¬ (16777216 : Int) < s.length := by omega
    refine ww1 (cj hs' <| cj e16 <| cj e17 <| cj e0 e6) ?_
    refine draw_by [(3, 7), (4, 7)] (by kernel_rfl) ?_
    refine ww1 (cj e16 <| cj e17 <| cj e0 e6) ?_
    generalize hhB : H.push h' _ = hB
    have hxB : Ext h' hB := by rw [← hhB]; exact (Ext.refl h').push _
    have hnB : hB.nx = h'.nx + 1 := by rw [← hhB]; rfl
    have sB : Src hB (.slice h'.nx 0 1 1) [.int .i64 7, .int .i64 0, .int .u64 0, .str s, bo False, .int .i64 0, .int .i64 0, .int .i64 0, .int .i64 0, .int .i64 0, .int .i64 0, .int .i64 0] 12 := by rw [← hhB]; exact src_new rfl rfl
    clear hhB
    refine append_lst (n0 := h.nx) (sv := rv) (xv := .slice h'.nx 0 1 1) (cells := cs) (new := [.int .i64 7, .int .i64 0, .int .u64 0, .str s, bo False, .int .i64 0, .int .i64 0, .int .i64 0, .int .i64 0, .int .i64 0, .int .i64 0, .int .i64 0]) ?_ ?_ ap92' ⟨.slice 134, by kernel_rfl, rfl⟩ (hrv.ext hxB) sB rfl ?_ (by decide) (fun k hk => by rw [fresh_def]; exact .inl hk) (by omega) ?_
    ·exact wv1 e6
    ·exact wv0
    ·rw [hcs]; show _ + 12 ≤ _; omega
    intro v2 h2 L2 hl2 hn2 _ hk2 hL2
    have aw2 := bs_low (h2 := h2) aw ow (by omega) fun k hk => by rw [hk2 k hk, hxB.2 k (by omega)]
    refine ww1 (cj e16 <| cj e17 <| cj e0 e6) ?_
    refine drop_bs (i := kk) aw2 ubs szb (by exact wv1 e0) (by exact wv0) hi.1 fun w3 L3 hw3 hoff hL3 => ?_
    refine ww1 (cj e16 <| cj e17 <| cj e0 e6) ?_
    refine ⟨fun p hp => ?_, n - (i + 1), by omega, i + 1, rfl, by omega, rfl, ⟨by omega, fun k hk => by rw [hk2 k hk, hxB.2 k (by omega), hx.2 k hk]⟩, w3, li.drop kk, v2, _, rfl, rfl, hw3, fun k hk => hoff k (ow k hk), ?_, hl2, ?_, hrt⟩
    ·simp only [List.mem_cons, List.not_mem_nil, or_false] at hp
     have lo := ap_low hrv (by omega) (by omega) hL2
     rcases hp with rfl | rfl
     ·exact pair_one rfl rfl (ap_rd (fun x hx => by rw [List.mem_singleton.1 hx]; exact nx) ow hL3)
     ·exact pair_one rfl rfl (ap_rd lo ow hL3)
    ·rw [List.length_drop]; omega
    ·rw [List.length_append, hcs]; show _ + 12 = _; omega
 obtain rfl : i = n := by omega
 rw [Nat.sub_self, rtE] at hrt
 by_cases h0 : 0 < li.length
 ·rw [if_pos h0] at hrt
  refine ww1 (cj e16 <| cj e17 <| cj e0 <| cj e6 <| cj hin <| cj a1 h0) ?_
  exact ⟨hx, _, rfl, rfl, by rw [hrt]⟩
 ·rw [if_neg h0] at hrt
  refine ww1 (cj e16 <| cj e17 <| cj e0 <| cj e6 <| cj hin <| cj a1 h0) ?_
  exact ⟨hx, _, c1, c2, by rw [hrt]⟩
end
noncomputable section
def setP (bs : List Nat) (i : Nat) : Prop := iAnd .u8 (iShr .u8 (byI bs (i / 8)) ((i % 8 : Nat) : Int)) 1 = 1
def rbL (bs : List Nat) : Nat → List (Int × Bool) → List Nat → Int
 | _, [], l => if 0 < l.length then 5 else 0
 | i, t :: ts, l => @ite _ (setP bs (i + 2)) (Classical.propDecidable _) (rbL bs (i + 1) ts l) (if (readF l t.1 t.2).2.2 ≠ 0 then (readF l t.1 t.2).2.2 else rbL bs (i + 1) ts (l.drop (readF l t.1 t.2).2.1.toNat))
def rbE (l : List Nat) (ts : List (Int × Bool)) : Int :=
 @ite _ (∃ t ∈ ts, kindF t.1 t.2 < 0) (Classical.propDecidable _) 2 <|
 if l.length < 1 then 4 else
 if byI l 0 ≠ 0 then 5 else
 if (l.drop 1).length < (ts.length + 9) / 8 then 4 else
 @ite _ (∃ i, i < 8 * ((ts.length + 9) / 8) ∧ setP ((l.drop 1).take ((ts.length + 9) / 8)) i ∧ (i < 2 ∨ ts.length + 2 ≤ i)) (Classical.propDecidable _) 5 <|
 @ite _ (∃ i, ∃ h : i < ts.length, (ts[i]'h).1 = 6 ∧ ¬ setP ((l.drop 1).take ((ts.length + 9) / 8)) (i + 2)) (Classical.propDecidable _) 5 <|
 rbL ((l.drop 1).take ((ts.length + 9) / 8)) 0 ts ((l.drop 1).drop ((ts.length + 9) / 8))
theorem whenF_ok {l : List Nat} {t : Int} (hb : ∀ x ∈ l, x < 256) (h : (whenF l t).2.2 = 0) : ∃ k : Nat, (whenF l t).2.1 = k ∧ k ≤ l.length := by
 by_cases h0 : l.length = 0
 ·rw [whenF0 h0] at h; cases h
 by_cases h1 : byI l 0 ∈ whenSz t
 case neg => rw [whenF1 h0 h1] at h; cases h
 by_cases h2 : l.length < 1 + l.getD 0 0
 ·rw [whenF2 h0 h1 h2] at h; cases h
 by_cases h3 : t = 11 ∧ 1 < byI (whenC l) 0
 ·rw [whenF3 h0 h1 h2 h3] at h; cases h
 by_cases h4 : fineP (whenW (whenC l) t) t
 ·rw [whenF5 h0 h1 h2 h3 h4]
  exact ⟨1 + l.getD 0 0, by show 1 + ((l.getD 0 0 : Nat) : Int) = _; omega, by omega⟩
 ·rw [whenF4 h0 h1 h2 h3 h4] at h; cases h
theorem readF_ok {l : List Nat} {t : Int} {u : Bool} (hb : ∀ x ∈ l, x < 256) (h : (readF l t u).2.2 = 0) : ∃ k : Nat, (readF l t u).2.1 = k ∧ k ≤ l.length := by
 unfold readF at h ⊢
 by_cases c1 : kindF t u = -1
 ·rw [if_pos c1] at h; cases h
 rw [if_neg c1] at h ⊢
 by_cases c2 : kindF t u = 0
 ·rw [if_pos c2]; exact ⟨0, rfl, Nat.zero_le _⟩
 rw [if_neg c2] at h ⊢
 by_cases c3 : kindF t u = 5 ∨ kindF t u = 6
 ·rw [if_pos c3] at h ⊢
  by_cases he : (whenF l t).2.2 = 0
  ·rw [if_neg (fun q => q he)]
   exact whenF_ok hb he
  ·rw [if_pos he] at h
   exact absurd h he
 rw [if_neg c3] at h ⊢
 by_cases c7 : kindF t u = 7
 ·rw [if_pos c7] at h ⊢
  have hi := txF_ok hb
  by_cases he : (txF l).2.2 = 0
  ·rw [if_neg (fun q => q he)] at h ⊢
   by_cases hs : 16777216 < (txF l).1.length
   ·rw [if_pos hs] at h; cases h
   ·rw [if_neg hs]
    exact ⟨_, rfl, hi.1⟩
  ·rw [if_pos he] at h
   exact absurd h he
 rw [if_neg c7] at h ⊢
 by_cases h5 : l.length < sizeF t
 ·rw [if_pos h5] at h; cases h
 rw [if_neg h5] at h ⊢
 refine ⟨sizeF t, ?_, by omega⟩
 split <;> rfl
variable {S : Set0} (hS : StdR S)
include hS
theorem take_spec {v : V} {l : List Nat} {h : H} {p : Nat} (g : h.get p = some (.cells [v] 25 false)) (a : BS 5 h v l) (hl : l.length < 2 ^ 28) (n : Nat) (hn : n < 2 ^ 28) : callW S.cfg (· = p) 111 [.int .i64 n, .ptr p 0] h fun r h' => (l.length < n ∧ r = .tuple [.nilslice, .int .i64 4] ∧ h' = h) ∨ (n ≤ l.length ∧ ∃ w w2, r = .tuple [w, .int .i64 0] ∧ h' = h.put p (.cells [w2] 25 false) ∧ BS 5 h w (l.take n) ∧ BS 5 h w2 (l.drop n) ∧ (∀ k, Off v k → Off w k) ∧ ∀ k, Off v k → Off w2 k) := by
 refine into Tryz.f111 _ Tryz.func111 (hS.ownR _ (by decide)) rfl rfl (by kernel_rfl) (by kernel_rfl) ?_
 have a1 := a.len 5
 by_cases hs : l.length < n
 ·have hs' : (l.length : Int) < n := by omega
  refine ww1 (cj @Tryz.f111.eq_1 <| cj g <| cj a1 hs') ?_
  exact .inl hs
 ·have hs' : ¬ (l.length : Int) < n := by omega
  refine ww1 (cj @Tryz.f111.eq_1 <| cj g <| cj a1 hs') ?_
  refine take_bs (j := n) a ubs szb (by exact wv0) (by exact wv0) (by omega) fun w L hw ho hL => ?_
  refine ww1 (cj @Tryz.f111.eq_1 g) ?_
  refine drop_bs (i := n) a ubs szb (by exact wv0) (by exact wv0) (by omega) fun w2 L2 hw2 ho2 hL2 => ?_
  obtain ⟨c1, c2⟩ := hw2.cell
  obtain ⟨c3, c4⟩ := hw.cell
  refine ww1 (cj @Tryz.f111.eq_1 <| cj g <| cj c1 <| cj c2 <| cj c3 c4) ?_
  exact .inr ⟨by omega, w, w2, rfl, rfl, hw, hw2, ho, ho2⟩
theorem set_spec {v : V} {l : List Nat} {h : H} {p : Nat} (g : h.get p = some (.cells [v] 25 false)) (a : BS 5 h v l) (hl : l.length < 2 ^ 28) (i : Nat) (hi : i / 8 < l.length) : Exact S.cfg 112 [.int .i64 i, .ptr p 0] h (bo (setP l i)) := by
 refine into Tryz.f112 _ Tryz.func112 (hS.ownR _ (by decide)) rfl rfl (by kernel_rfl) (by kernel_rfl) ?_
 have a1 := a.len 5
 obtain ⟨b, o, m, hv, _, _⟩ := a.at hi
 obtain ⟨_, hb, hrd⟩ := BS.rd (hv ▸ a)
 have hr := hrd _ hi
 subst hv
 have hil : i < 2 ^ 31 := by omega
 have m0 : ((i : Int)).tdiv 8 = ((i / 8 : Nat) : Int) := (Int.ofNat_tdiv i 8).symm
 have m1 : IntKind.i64.wrap (((i : Int)).tdiv 8) = ((i / 8 : Nat) : Int) := by rw [m0]; exact i64_in _ (by omega)
 have m2 : ((i : Int)).tmod 8 = ((i % 8 : Nat) : Int) := (Int.ofNat_tmod i 8).symm
 have m3 : ((8 : Int) = 0) = False := by decide
 have m4 : ¬ (((i % 8 : Nat) : Int) < 0) := by omega
 have m5 : (1 : Int) = IntKind.u8.wrap 1 := rfl
 refine ww1 (cj @Tryz.f112.eq_1 <| cj g <| cj a1 <| cj m1 <| cj m2 <| cj m3 <| cj m4 <| cj hi hr) ?_
 rfl
end
noncomputable section
def tyC (ts : List (Int × Bool)) : List V := ts.flatMap fun t => [.int .u8 t.1, .bool t.2]
theorem tyC_len : ∀ ts : List (Int × Bool), (tyC ts).length = ts.length * 2
 | [] => rfl
 | t :: ts => by
   have := tyC_len ts
   unfold tyC at this ⊢
   rw [List.flatMap_cons, List.length_append, this]
   show 2 + ts.length * 2 = (ts.length + 1) * 2
   omega
theorem tyC_at : ∀ (ts : List (Int × Bool)) (i : Nat) (hi : i < ts.length), ((tyC ts).drop (i * 2)).take 2 = [.int .u8 ts[i].1, .bool ts[i].2]
 | t :: ts, 0, _ => rfl
 | t :: ts, i + 1, hi => by
   have h := tyC_at ts i (by simpa using hi)
   have e : tyC (t :: ts) = [.int .u8 t.1, .bool t.2] ++ tyC ts := rfl
   rw [e, show (i + 1) * 2 = 2 + i * 2 by omega, ← List.drop_drop]
   exact h
theorem _root_.Go.Wx.Lst.put_low {n0 e sz k : Nat} {h : H} {v : V} {cells : List V} {ob : Ob} (ha : Lst n0 h v cells e sz) (hk : k < n0) : Lst n0 (h.put k ob) v cells e sz := by
 rcases ha with ha | ⟨h1, b, h2, h3, h4, h5⟩
 ·exact .inl (ha.put hk)
 ·exact .inr ⟨h1, b, h2, h3, h4, by rw [put_ne (by omega)]; exact h5⟩
theorem _root_.Go.Wx.Ext.trans_but {h a b : H} (x : Ext h a) (y : But h.nx a b) : Ext h b := ⟨Nat.le_trans x.1 y.1, fun k hk => by rw [y.2 k (Nat.lt_of_lt_of_le hk x.1) (by omega), x.2 k hk]⟩
variable {S : Set0} (hS : StdR S)
include hS
theorem rbin_spec {v tv : V} {l : List Nat} {ts : List (Int × Bool)} {h : H} (a : BS 5 h v l) (hl : l.length < 2 ^ 28) (rt : RW 108 2 ts.length h tv (tyC ts)) (hn : ts.length ≤ 4096) (hts : ∀ t ∈ ts, 0 ≤ t.1 ∧ t.1 < 256) : Pure S.cfg 69 [v, tv] h fun w _ => ∃ rv, rv.cells = [rv] ∧ rv.isCell = true ∧ w = .tuple [rv, .int .i64 (rbE l ts)] := by
 refine into Tryz.f69 _ Tryz.func69 (hS.ownR _ (by decide)) rfl rfl (by kernel_rfl) (by kernel_rfl) ?_
 obtain ⟨c1, c2⟩ := a.cell
 have t1 := rt.len 108
 have hn2 : ¬ ((4096 : Int) < ts.length) := by omega
 have tyAt : ∀ i (hi : i < ts.length), ∃ b o m, tv = .slice b o ts.length m ∧ b < h.nx ∧ rdV (some (2, true)) (h.get b) (o + i * 2) = some (.agg [.int .u8 ts[i].1, .bool ts[i].2]) := fun i hi => by
  obtain ⟨b, o, m, q⟩ := rt.at (by omega)
  obtain ⟨_, hb, _, hr⟩ := RW.rd (q ▸ rt)
  exact ⟨b, o, m, q, hb, by rw [hr (i * 2) 2 (by rw [tyC_len]; omega), tyC_at]⟩
 refine ww1 (cj @Tryz.f69.eq_1 <| cj t1 <| cj hn2 <| cj c1 c2) ?_
 generalize hhA : H.push h _ = hA
 have hxA : Ext h hA := by rw [← hhA]; exact (Ext.refl h).push _
 have hnA : hA.nx = h.nx + 1 := by rw [← hhA]; rfl
 have g2 : hA.get h.nx = some (.cells [v] 25 false) := by rw [← hhA]; exact push_eq rfl
 clear hhA
 refine run_loop (fun k env h' => ∃ i : Nat, k = ts.length - i ∧ i ≤ ts.length ∧ env 1 = tv ∧ env 2 = .ptr h.nx 0 ∧ env 25 = tv ∧ env 26 = .int .i64 ts.length ∧ env 27 = .int .i64 i ∧ Ext hA h' ∧ ∀ j (hj : j < ts.length), j < i → ¬ kindF ts[j].1 ts[j].2 < 0) ts.length ⟨0, ?_⟩ ?_
 ·refine ww0 ?_
  exact ⟨(Nat.sub_zero _).symm, Ext.refl hA, fun j _ q => by omega⟩
 rintro k env h' ⟨i, rfl, hi, e1, e2, e25, e26, e27, hx, hk⟩
 have nx := hx.1
 by_cases hin : i < ts.length
 ·have hin' : (i : Int) < ts.length := by omega
  obtain ⟨b, o, m, hv, hb, hr⟩ := tyAt i hin
  have hr' : rdV (some (2, true)) (h'.get b) (o + i * 2) = some (.agg [.int .u8 ts[i].1, .bool ts[i].2]) := by rw [hx.2 b (by omega), hxA.2 b hb]; exact hr
  refine ww1 (cj e1 <| cj e2 <| cj e25 <| cj e26 <| cj e27 <| cj hin <| cj hin' <| cj hv hr') ?_
  refine ⟨.inr (by omega), callF_pure (kind_spec hS _ _ (hts _ (List.getElem_mem hin)) _) ?_⟩
  rintro _ h2 hx2 rfl
  have hx3 : Ext h' h2 := (((Ext.refl h').push _).put (Nat.le_refl _) _).trans hx2
  by_cases hneg : kindF ts[i].1 ts[i].2 < 0
  ·have e : rbE l ts = 2 := by unfold rbE; rw [if_pos ⟨_, List.getElem_mem hin, hneg⟩]
   rw [e]
   refine ww1 hneg ?_
   exact ⟨(hxA.trans hx).trans hx3, _, rfl, rfl, rfl⟩
  ·refine ww1 (cj hneg <| cj e1 <| cj e2 <| cj e25 <| cj e26 e27) ?_
   refine ⟨ts.length - (i + 1), by omega, i + 1, rfl, by omega, hv, hv, rfl, hx.trans hx3, fun j hj hji => ?_⟩
   by_cases hje : j = i
   ·subst hje; exact hneg
   ·exact hk j hj (by omega)
 obtain rfl : i = ts.length := by omega
 have hno : ¬ ∃ t ∈ ts, kindF t.1 t.2 < 0 := by
  rintro ⟨t, ht, q⟩
  obtain ⟨j, hj, rfl⟩ := List.getElem_of_mem ht
  exact hk j hj hj q
 refine ww1 (cj e1 <| cj e2 <| cj e25 <| cj e26 <| cj e27 hin) ?_
 have g2' : h'.get h.nx = some (.cells [v] 25 false) := by rw [hx.2 _ (by omega)]; exact g2
 have okf : ∀ k, k = h.nx → fresh h.nx nil1 k := fun k hk => by rw [fresh_def]; exact .inl (by omega)
 refine callF_of (take_spec hS g2' ((a.ext hxA).ext hx) hl 1 (by decide)) okf ?_
 rintro _ h1 q1
 have re : rbE l ts = if l.length < 1 then 4 else
   if byI l 0 ≠ 0 then 5 else
   if l.length - 1 < (ts.length + 9) / 8 then 4 else
   @ite _ (∃ i, i < 8 * ((ts.length + 9) / 8) ∧ setP ((l.drop 1).take ((ts.length + 9) / 8)) i ∧ (i < 2 ∨ ts.length + 2 ≤ i)) (Classical.propDecidable _) 5 <|
   @ite _ (∃ i, ∃ h : i < ts.length, (ts[i]'h).1 = 6 ∧ ¬ setP ((l.drop 1).take ((ts.length + 9) / 8)) (i + 2)) (Classical.propDecidable _) 5 <|
   rbL ((l.drop 1).take ((ts.length + 9) / 8)) 0 ts ((l.drop 1).drop ((ts.length + 9) / 8)) := by unfold rbE; rw [if_neg hno, List.length_drop]
 rw [re]
 have hxH : Ext h h' := hxA.trans hx
 rcases q1 with ⟨q, rfl, rfl⟩ | ⟨q, w1, w2, rfl, rfl, aw1, aw2, ho1, ho2⟩
 ·rw [if_pos q]
  refine ww1 n40 ?_
  exact ⟨hxH, _, rfl, rfl, rfl⟩
 rw [if_neg (by omega)]
 obtain ⟨b1, o1, m1, hv1, _, _⟩ := aw1.at (i := 0) (by rw [List.length_take]; omega)
 obtain ⟨_, hb1, hrd1⟩ := BS.rd (hv1 ▸ aw1)
 have hr1 := hrd1 0 (by rw [List.length_take]; omega)
 rw [Nat.add_zero] at hr1
 have hbt : byI (l.take 1) 0 = byI l 0 := by
  unfold byI
  congr 1
  cases l with
  | nil => rfl
  | cons x l => rfl
 have hlt : (l.take 1).length = 1 := by rw [List.length_take]; omega
 rw [hbt] at hr1
 subst hv1
 have hb1n : b1 < h.nx := Classical.byContradiction fun u => ho1 b1 (a.off (by omega)) _ _ _ rfl
 have hr1' : rdV (some (1, false)) ((h'.put h.nx (.cells [w2] 25 false)).get b1) o1 = some (.int .u8 (byI l 0)) := by rw [put_ne (by omega)]; exact hr1
 have l01 : 0 < 1 := by decide
 by_cases hz : byI l 0 = 0
 case neg =>
  rw [if_pos hz]
  refine ww1 (cj hr1 <| cj hlt <| cj hz l01) ?_
  exact ⟨hxH.put (Nat.le_refl _) _, _, rfl, rfl, rfl⟩
 rw [if_neg (fun q => q hz)]
 have hz' := eq_true hz
 have m1 : IntKind.i64.wrap ((ts.length : Int) + 9) = ((ts.length + 9 : Nat) : Int) := i64_in _ (by omega)
 have m2 : ((ts.length + 9 : Nat) : Int).tdiv 8 = (((ts.length + 9) / 8 : Nat) : Int) := (Int.ofNat_tdiv _ 8).symm
 have m3 : ((8 : Int) = 0) = False := by decide
 have m4 : IntKind.i64.wrap ((((ts.length + 9) / 8 : Nat) : Int)) = (((ts.length + 9) / 8 : Nat) : Int) := i64_in _ (by omega)
 refine ww1 (cj hr1 <| cj hlt <| cj hz' <| cj e1 <| cj t1 <| cj l01 <| cj m1 <| cj m2 <| cj m3 m4) ?_
 generalize hhD : H.put h' _ _ = hD
 have hxD : But h.nx h' hD := by rw [← hhD]; exact (But.refl _ _).put _
 have nD : hD.nx = h'.nx := by rw [← hhD]; rfl
 have gD : hD.get h.nx = some (.cells [w2] 25 false) := by rw [← hhD]; exact put_eq rfl
 have ow2 : ∀ k, h.nx ≤ k → Off w2 k := fun k hk => ho2 k (a.off hk)
 have aw2' : BS 5 hD w2 (l.drop 1) := by rw [← hhD]; exact aw2.put (ow2 _ (Nat.le_refl _))
 clear hhD aw2 hr1 hr1'
 generalize hnb : (ts.length + 9) / 8 = nb at *
 refine callF_of (take_spec hS gD aw2' (by rw [List.length_drop]; omega) nb (by omega)) okf ?_
 rintro _ h1 q1
 rw [List.length_drop] at q1
 have hxhD : Ext h hD := hxH.trans_but hxD
 rcases q1 with ⟨q, rfl, rfl⟩ | ⟨q, w3, w4, rfl, rfl, aw3, aw4, ho3, ho4⟩
 ·rw [if_pos q]
  refine ww1 n40 ?_
  exact ⟨.inr (by omega), (hxhD.push _).put (by omega) _, _, rfl, rfl, rfl⟩
 rw [if_neg (by omega)]
 obtain ⟨d1, d2⟩ := aw3.cell
 have hlb : ((l.drop 1).take nb).length = nb := by rw [List.length_take, List.length_drop]; omega
 have t3 := aw3.len 5
 rw [hlb] at t3
 have m5 : IntKind.i64.wrap (8 * (nb : Int)) = ((8 * nb : Nat) : Int) := i64_in _ (by omega)
 refine ww1 (cj d1 <| cj d2 <| cj hz' <| cj t3 m5) ?_
 generalize hhE : H.put (H.push (H.put hD _ _) _) _ _ = hE
 have xD : But h.nx hD hE := by rw [← hhE]; exact ⟨Nat.le_succ _, fun k hk hr => by rw [put_ne (by omega), push_ne (by simp only [put_nx]; omega), put_ne hr]⟩
 have nE : hE.nx = hD.nx + 1 := by rw [← hhE]; rfl
 have gE : hE.get h.nx = some (.cells [w4] 25 false) := by rw [← hhE, put_ne (by omega), push_ne (by simp only [put_nx]; omega)]; exact put_eq rfl
 have gb : hE.get hD.nx = some (.cells [w3] 25 false) := by rw [← hhE]; exact put_eq rfl
 have hxE : Ext h hE := hxhD.trans_but xD
 have ow3 : ∀ k, h.nx ≤ k → Off w3 k := fun k hk => ho3 k (ow2 k hk)
 have ow4 : ∀ k, h.nx ≤ k → Off w4 k := fun k hk => ho4 k (ow2 k hk)
 have aw3E := bs_low aw3 ow3 (by omega) fun k hk => xD.2 k (by omega) (by omega)
 have aw4E := bs_low aw4 ow4 (by omega) fun k hk => xD.2 k (by omega) (by omega)
 clear hhE aw3 aw4 gD aw2'
 generalize hbs : (l.drop 1).take nb = bs at *
 generalize hl2 : (l.drop 1).drop nb = l2 at *
 have hl2n : l2.length < 2 ^ 28 := by rw [← hl2, List.length_drop, List.length_drop]; omega
 clear hxD xD hxhD
 refine ⟨.inr (by omega), ?_⟩
 refine run_loop (fun k env h' => ∃ i : Nat, k = 8 * nb - i ∧ i ≤ 8 * nb ∧ h' = hE ∧ env 1 = tv ∧ env 2 = .ptr h.nx 0 ∧ env 12 = .func 112 [] [.ptr hD.nx 0] ∧ env 65 = .int .i64 ((8 * nb : Nat) : Int) ∧ env 66 = .int .i64 i ∧ ∀ j, j < i → ¬ (setP bs j ∧ (j < 2 ∨ ts.length + 2 ≤ j))) (8 * nb) ⟨0, ?_⟩ ?_
 ·refine ww0 ?_
  exact ⟨(Nat.sub_zero _).symm, e1, e2, fun j q => by omega⟩
 rintro k env2 hE' ⟨i, rfl, hi, rfl, e1, e2, e12, e65, e66, hk2⟩
 by_cases hin2 : i < 8 * nb
 ·have hin2' : (i : Int) < ((8 * nb : Nat) : Int) := by omega
  have m6 : IntKind.i64.wrap ((ts.length : Int) + 2) = ((ts.length + 2 : Nat) : Int) := i64_in _ (by omega)
  refine ww1 (cj e1 <| cj e2 <| cj e12 <| cj e65 <| cj e66 <| cj hin2 <| cj hin2' <| cj t1 m6) ?_
  refine callF_exact (set_spec hS gb aw3E (by omega) i (by omega)) ?_
  by_cases hst : setP bs i
  ·have hst' := eq_true hst
   by_cases hlo : i < 2 ∨ ts.length + 2 ≤ i
   ·have e : (∃ i, i < 8 * nb ∧ setP bs i ∧ (i < 2 ∨ ts.length + 2 ≤ i)) := ⟨i, hin2, hst, hlo⟩
    rw [if_pos e]
    by_cases h2 : i < 2
    ·have h2' : (i : Int) < 2 := by omega
     refine ww1 (cj e1 <| cj e2 <| cj e12 <| cj e65 <| cj e66 <| cj hin2 <| cj hin2' <| cj t1 <| cj m6 <| cj hst' <| cj h2 h2') ?_
     exact ⟨hxE, _, rfl, rfl, rfl⟩
    ·have h2' : ¬ (i : Int) < 2 := by omega
     have h3 : ts.length + 2 ≤ i := by omega
     have h3' : ((ts.length + 2 : Nat) : Int) ≤ i := by omega
     refine ww1 (cj e1 <| cj e2 <| cj e12 <| cj e65 <| cj e66 <| cj hin2 <| cj hin2' <| cj t1 <| cj m6 <| cj hst' <| cj h2 <| cj h2' <| cj h3 h3') ?_
     exact ⟨hxE, _, rfl, rfl, rfl⟩
   ·have h2 : ¬ i < 2 := by omega
    have h2' : ¬ (i : Int) < 2 := by omega
    have h3 : ¬ ts.length + 2 ≤ i := by omega
    have h3' : ¬ ((ts.length + 2 : Nat) : Int) ≤ i := by omega
    refine ww1 (cj e1 <| cj e2 <| cj e12 <| cj e65 <| cj e66 <| cj hin2 <| cj hin2' <| cj t1 <| cj m6 <| cj hst' <| cj h2 <| cj h2' <| cj h3 h3') ?_
    refine ⟨8 * nb - (i + 1), by omega, i + 1, rfl, by omega, rfl, fun j hj q => ?_⟩
    rcases (by omega : j < i ∨ j = i) with u | rfl
    ·exact hk2 j u q
    ·exact hlo q.2
  ·refine ww1 (cj e1 <| cj e2 <| cj e12 <| cj e65 <| cj e66 <| cj hin2 <| cj hin2' <| cj t1 <| cj m6 hst) ?_
   refine ⟨8 * nb - (i + 1), by omega, i + 1, rfl, by omega, rfl, fun j hj q => ?_⟩
   rcases (by omega : j < i ∨ j = i) with u | rfl
   ·exact hk2 j u q
   ·exact hst q.1
 obtain rfl : i = 8 * nb := by omega
 rw [if_neg (fun ⟨j, hj, q⟩ => hk2 j hj q)]
 refine ww1 (cj e1 <| cj e2 <| cj e12 <| cj e65 <| cj e66 <| cj hin2 t1) ?_
 have ltD : hD.nx < hE'.nx := by omega
 have gT : ∀ {h' : H} i (hi : i < ts.length), Ext hE' h' → ∃ b o m, tv = .slice b o ts.length m ∧ rdV (some (2, true)) (h'.get b) (o + i * 2) = some (.agg [.int .u8 ts[i].1, .bool ts[i].2]) := fun {h'} i hi x => by
  obtain ⟨b, o, m, q, hb, hr⟩ := tyAt i hi
  exact ⟨b, o, m, q, by rw [x.2 b (by omega), hxE.2 b hb]; exact hr⟩
 refine run_loop (fun k env h' => ∃ i : Nat, k = ts.length - i ∧ i ≤ ts.length ∧ env 1 = tv ∧ env 2 = .ptr h.nx 0 ∧ env 12 = .func 112 [] [.ptr hD.nx 0] ∧ env 84 = tv ∧ env 85 = .int .i64 ts.length ∧ env 86 = .int .i64 i ∧ Ext hE' h' ∧ ∀ j (hj : j < ts.length), j < i → ¬ (ts[j].1 = 6 ∧ ¬ setP bs (j + 2))) ts.length ⟨0, ?_⟩ ?_
 ·refine ww0 ?_
  exact ⟨(Nat.sub_zero _).symm, e1, e2, e12, Ext.refl _, fun j _ q => by omega⟩
 rintro k env3 h3 ⟨i, rfl, hi, e1, e2, e12, e84, e85, e86, hx3, hk3⟩
 have n3 := hx3.1
 by_cases hin3 : i < ts.length
 ·have hin3' : (i : Int) < ts.length := by omega
  obtain ⟨b, o, m, hv, hr⟩ := gT i hin3 hx3
  have m7 : IntKind.i64.wrap ((i : Int) + 2) = ((i + 2 : Nat) : Int) := i64_in _ (by omega)
  have gb3 : h3.get hD.nx = some (.cells [w3] 25 false) := by rw [hx3.2 _ ltD]; exact gb
  have hx4 : Ext hE' ((h3.push (.cells [.int .u8 0, bo False] 108 false)).put h3.nx (.cells [.int .u8 ts[i].1, .bool ts[i].2] 108 false)) := (hx3.push _).put n3 _
  have g4 : ((h3.push (.cells [.int .u8 0, bo False] 108 false)).put h3.nx (.cells [.int .u8 ts[i].1, .bool ts[i].2] 108 false)).get hD.nx = some (.cells [w3] 25 false) := by rw [put_ne (by omega), push_ne (by omega)]; exact gb3
  have st := set_spec hS g4 (aw3E.ext hx4) (by omega) (i + 2) (by omega)
  have nxt : ¬ (ts[i].1 = 6 ∧ ¬ setP bs (i + 2)) → ∀ j (hj : j < ts.length), j < i + 1 → ¬ (ts[j].1 = 6 ∧ ¬ setP bs (j + 2)) := fun u j hj hji => by
   rcases (by omega : j < i ∨ j = i) with q | rfl
   ·exact hk3 j hj q
   ·exact u
  by_cases h6 : ts[i].1 = 6
  ·have h6' := eq_true h6
   refine ww1 (cj e1 <| cj e2 <| cj e12 <| cj e84 <| cj e85 <| cj e86 <| cj hin3 <| cj hin3' <| cj hv <| cj hr <| cj h6' m7) ?_
   refine ⟨.inr (by omega), callF_exact st ?_⟩
   by_cases hst : setP bs (i + 2)
   ·have hst' := eq_true hst
    refine ww1 (cj e1 <| cj e2 <| cj e12 <| cj e84 <| cj e85 <| cj e86 hst') ?_
    exact ⟨ts.length - (i + 1), by omega, i + 1, rfl, by omega, hv, hv, rfl, hx4, nxt fun u => u.2 hst⟩
   ·rw [if_pos ⟨i, hin3, h6, hst⟩]
    refine ww1 hst ?_
    exact ⟨hxE.trans hx4, _, rfl, rfl, rfl⟩
  ·refine ww1 (cj e1 <| cj e2 <| cj e12 <| cj e84 <| cj e85 <| cj e86 <| cj hin3 <| cj hin3' <| cj hv <| cj hr <| cj h6 m7) ?_
   exact ⟨.inr (by omega), ts.length - (i + 1), by omega, i + 1, rfl, by omega, rfl, hx4, nxt fun u => h6 u.1⟩
 obtain rfl : i = ts.length := by omega
 rw [if_neg (fun ⟨j, hj, q⟩ => hk3 j hj hj q)]
 refine ww1 (cj e1 <| cj e2 <| cj e12 <| cj e84 <| cj e85 <| cj e86 <| cj hin3 t1) ?_
 have gE3 : h3.get h.nx = some (.cells [w4] 25 false) := by rw [hx3.2 _ (by omega)]; exact gE
 have gb3 : h3.get hD.nx = some (.cells [w3] 25 false) := by rw [hx3.2 _ ltD]; exact gb
 have hxF : Ext h h3 := hxE.trans hx3
 have aw3F := aw3E.ext hx3
 have aw4F := aw4E.ext hx3
 refine run_loop (fun k env h' => ∃ i : Nat, k = ts.length - i ∧ i ≤ ts.length ∧ env 2 = .ptr h.nx 0 ∧ env 12 = .func 112 [] [.ptr hD.nx 0] ∧ env 102 = tv ∧ env 103 = .int .i64 ts.length ∧ env 104 = .int .i64 i ∧ But h.nx h3 h' ∧ ∃ w li rv cs, h'.get h.nx = some (.cells [w] 25 false) ∧ env 16 = rv ∧ BS 5 h' w li ∧ (∀ k, h.nx ≤ k → Off w k) ∧ li.length < 2 ^ 28 ∧ Lst h3.nx h' rv cs 134 12 ∧ cs.length = i * 12 ∧ rbL bs 0 ts l2 = rbL bs i (ts.drop i) li) ts.length ⟨0, ?_⟩ ?_
 ·refine ww0 ?_
  exact ⟨(Nat.sub_zero _).symm, e2, e12, But.refl _ _, w4, l2, .nilslice, [], gE3, rfl, aw4F, ow4, hl2n, .inl (.inl ⟨rfl, rfl⟩), rfl, rfl⟩
 rintro k env4 h4 ⟨i, rfl, hi, e2, e12, e102, e103, e104, hx4, w, li, rv, cs, gw, e16, aw, ow, hli, hrv, hcs, hrb⟩
 have n4 := hx4.1
 obtain ⟨c3, c4⟩ := lst_form hrv
 have hx04 : Ext h h4 := hxF.trans_but hx4
 have gb4 : h4.get hD.nx = some (.cells [w3] 25 false) := by rw [hx4.2 _ (by omega) (by omega)]; exact gb3
 by_cases hin4 : i < ts.length
 ·have hin4' : (i : Int) < ts.length := by omega
  obtain ⟨b, o, m, hv, hbn, hr⟩ := tyAt i hin4
  have hr4 : rdV (some (2, true)) (h4.get b) (o + i * 2) = some (.agg [.int .u8 ts[i].1, .bool ts[i].2]) := by rw [hx04.2 b hbn]; exact hr
  have m7 : IntKind.i64.wrap ((i : Int) + 2) = ((i + 2 : Nat) : Int) := i64_in _ (by omega)
  rw [List.drop_eq_getElem_cons hin4, rbL] at hrb
  refine ww1 (cj e2 <| cj e12 <| cj e102 <| cj e103 <| cj e104 <| cj hin4 <| cj hin4' <| cj hv <| cj hr4 m7) ?_
  generalize hhG : H.put (H.push h4 _) _ _ = hG
  have hxG : Ext h4 hG := by rw [← hhG]; exact ((Ext.refl h4).push _).put (Nat.le_refl _) _
  have nG : hG.nx = h4.nx + 1 := by rw [← hhG]; rfl
  have gt : hG.get h4.nx = some (.cells [.int .u8 ts[i].1, .bool ts[i].2] 108 false) := by rw [← hhG]; exact put_eq rfl
  clear hhG
  have gwG : hG.get h.nx = some (.cells [w] 25 false) := by rw [hxG.2 _ (by omega)]; exact gw
  have gbG : hG.get hD.nx = some (.cells [w3] 25 false) := by rw [hxG.2 _ (by omega)]; exact gb4
  have aw3G : BS 5 hG w3 bs := bs_low aw3F ow3 (by omega) fun k hk => by rw [hxG.2 k (by omega), hx4.2 k (by omega) (by omega)]
  refine ⟨.inr (by omega), callF_exact (set_spec hS gbG aw3G (by omega) (i + 2) (by omega)) ?_⟩
  have fin : ∀ (h' : H), hG.nx ≤ h'.nx → (∀ k, k < h3.nx → k ≠ h.nx → h'.get k = hG.get k) → But h.nx h3 h' := fun h' q1 q2 => ⟨by omega, fun k hk hr => by rw [q2 k hk hr, hxG.2 k (by omega), hx4.2 k hk hr]⟩
  by_cases hst : setP bs (i + 2)
  ·rw [if_pos hst] at hrb
   have hst' := eq_true hst
   refine ww1 (cj e2 <| cj e12 <| cj e102 <| cj e103 <| cj e104 hst') ?_
   generalize hhB : H.push hG _ = hB
   have hxB : Ext hG hB := by rw [← hhB]; exact (Ext.refl hG).push _
   have hnB : hB.nx = hG.nx + 1 := by rw [← hhB]; rfl
   have sB : Src hB (.slice hG.nx 0 1 1) zVL 12 := by rw [← hhB]; exact src_new rfl rfl
   clear hhB
   refine append_lst (n0 := h3.nx) (sv := rv) (xv := .slice hG.nx 0 1 1) (cells := cs) (new := zVL) ?_ ?_ ap92' ⟨.slice 134, by kernel_rfl, rfl⟩ (hrv.ext (hxG.trans hxB)) sB rfl ?_ (by decide) (fun k hk => by rw [fresh_def]; exact .inl (by omega)) (by omega) ?_
   ·exact wv1 e16
   ·exact wv0
   ·rw [hcs]; show _ + 12 ≤ _; omega
   intro v2 h5 L2 hl2' hn5 _ hk5 hL2
   refine ww1 (cj e2 <| cj e12 <| cj e102 <| cj e103 e104) ?_
   refine ⟨ts.length - (i + 1), by omega, i + 1, rfl, by omega, hv, rfl, fin h5 (by omega) fun k hk hr => by rw [hk5 k hk, hxB.2 k (by omega)], w, li, v2, cs ++ zVL, by rw [hk5 _ (by omega), hxB.2 _ (by omega)]; exact gwG, rfl, bs_low aw ow (by omega) fun k hk => by rw [hk5 k (by omega), hxB.2 k (by omega), hxG.2 k (by omega)], ow, hli, hl2', ?_, hrb⟩
   rw [List.length_append, hcs]; show _ + 12 = _; omega
  ·rw [if_neg hst] at hrb
   refine ww1 (cj e2 <| cj e12 <| cj e102 <| cj e103 <| cj e104 <| cj hst <| cj gwG gt) ?_
   refine callF_pure (vread_spec hS (aw.ext hxG) hli _ _ (hts _ (List.getElem_mem hin4))) ?_
   rintro _ h5 hx5 rfl
   have n5 := hx5.1
   have hok : (readF li ts[i].1 ts[i].2).2.2 = 0 → ∃ k : Nat, (readF li ts[i].1 ts[i].2).2.1 = k ∧ k ≤ li.length := fun q => readF_ok aw.1 q
   generalize readF li ts[i].1 ts[i].2 = r at hrb hok ⊢
   obtain ⟨x, nn, e⟩ := r
   have xe : x.cells = [.int .i64 x.k, .int .i64 x.i, .int .u64 x.u, .str x.s, .bool x.w.neg, .int .i64 x.w.a1, .int .i64 x.w.a2, .int .i64 x.w.a3, .int .i64 x.w.a4, .int .i64 x.w.a5, .int .i64 x.w.a6, .int .i64 x.w.a7] := rfl
   rw [xe]
   by_cases he : e = 0
   case neg =>
    rw [if_pos he] at hrb
    rw [hrb]
    refine ww1 he ?_
    exact ⟨.inr (by omega), (((hx04.trans hxG).trans hx5).push _).put (by omega) _, _, rfl, rfl, rfl⟩
   rw [if_neg (fun q => q he)] at hrb
   obtain ⟨kk, hkk, hkl⟩ := hok he
   simp only at hkk hkl he
   subst he
   subst hkk
   have hx5' : Ext h4 h5 := hxG.trans hx5
   refine ww1 (cj e2 <| cj e12 <| cj e102 <| cj e103 e104) ?_
   generalize hhC : H.put (H.push h5 _) _ _ = hC
   have hxC : Ext h5 hC := by rw [← hhC]; exact ((Ext.refl h5).push _).put (Nat.le_refl _) _
   have hnC : hC.nx = h5.nx + 1 := by rw [← hhC]; rfl
   have gC : hC.get h5.nx = some (.cells [.int .i64 x.k, .int .i64 x.i, .int .u64 x.u, .str x.s, .bool x.w.neg, .int .i64 x.w.a1, .int .i64 x.w.a2, .int .i64 x.w.a3, .int .i64 x.w.a4, .int .i64 x.w.a5, .int .i64 x.w.a6, .int .i64 x.w.a7] 134 false) := by rw [← hhC]; exact put_eq rfl
   clear hhC
   refine ⟨.inr (by omega), draw_by [(2, 4), (3, 4), (2, 6), (3, 6)] (by kernel_rfl) ?_⟩
   refine ww1 (cj e2 <| cj e12 <| cj e102 <| cj e103 <| cj e104 gC) ?_
   generalize hxl : [V.int .i64 x.k, .int .i64 x.i, .int .u64 x.u, .str x.s, .bool x.w.neg, .int .i64 x.w.a1, .int .i64 x.w.a2, .int .i64 x.w.a3, .int .i64 x.w.a4, .int .i64 x.w.a5, .int .i64 x.w.a6, .int .i64 x.w.a7] = xl
   have xll : xl.length = 12 := by rw [← hxl]; rfl
   have xlc : xl.all V.isCell = true := by rw [← hxl]; rfl
   clear gC
   generalize hhB : H.push hC _ = hB
   have hxB : Ext hC hB := by rw [← hhB]; exact (Ext.refl hC).push _
   have hnB : hB.nx = hC.nx + 1 := by rw [← hhB]; rfl
   have sB : Src hB (.slice hC.nx 0 1 1) xl 12 := by rw [← hhB]; exact src_new rfl xll
   clear hhB hxl
   have hx4B : Ext h4 hB := (hx5'.trans hxC).trans hxB
   refine append_lst (n0 := h3.nx) (sv := rv) (xv := .slice hC.nx 0 1 1) (cells := cs) (new := xl) ?_ ?_ ap92' ⟨.slice 134, by kernel_rfl, rfl⟩ (hrv.ext hx4B) sB xlc ?_ (by decide) (fun k hk => by rw [fresh_def]; exact .inl (by omega)) (by omega) ?_
   ·exact wv1 e16
   ·exact wv0
   ·rw [hcs, xll]; omega
   intro v2 h6 L2 hl2' hn6 _ hk6 hL2
   have gw6 : h6.get h.nx = some (.cells [w] 25 false) := by rw [hk6 _ (by omega), hx4B.2 _ (by omega)]; exact gw
   have aw6 : BS 5 h6 w li := bs_low aw ow (by omega) fun k hk => by rw [hk6 k (by omega), hx4B.2 k (by omega)]
   refine ww1 (cj e2 <| cj e12 <| cj e102 <| cj e103 <| cj e104 gw6) ?_
   refine drop_bs (i := kk) aw6 ubs szb (by exact wv0) (by exact wv0) hkl fun w5 L3 hw5 hoff hL3 => ?_
   obtain ⟨d3, d4⟩ := hw5.cell
   refine ww1 (cj e2 <| cj e12 <| cj e102 <| cj e103 <| cj e104 <| cj gw6 <| cj d3 d4) ?_
   refine ⟨fun p hp => ?_, ts.length - (i + 1), by omega, i + 1, rfl, by omega, hv, rfl, ⟨by show _ ≤ h6.nx; omega, fun k hk hr => by rw [put_ne hr, hk6 k hk, hx4B.2 k (by omega), hx4.2 k hk hr]⟩, w5, li.drop kk, v2, cs ++ xl, rfl, rfl, hw5.put (hoff _ (ow _ (Nat.le_refl _))), fun k hk => hoff k (ow k hk), ?_, hl2'.put_low (by omega), ?_, hrb⟩
   ·simp only [List.mem_cons, List.not_mem_nil, or_false] at hp
    have lo := ap_low hrv (by omega) (by omega) hL2
    have ow' : ∀ k, h3.nx ≤ k → Off w k := fun k hk => ow k (by omega)
    have rb : ∀ (L : List LE), (∀ x ∈ L, h3.nx ≤ blkOf x) → fpApart (.lg L) (.lg (ldL (some (1, false)) (.ptr h.nx 0))) := fun L hL => apart_blk fun y hy z hz q => by
     rw [List.mem_singleton.1 hz] at q
     have q : blkOf y = h.nx := q
     have := hL y hy
     omega
    have lc : ∀ x ∈ [LE.wrd hC.nx], h3.nx ≤ blkOf x := fun x hx => by
     rw [List.mem_singleton.1 hx]
     show h3.nx ≤ hC.nx
     omega
    rcases hp with rfl | rfl | rfl | rfl
    ·exact pair_one rfl rfl (rb _ lc)
    ·exact pair_one rfl rfl (rb _ lo)
    ·exact pair_one rfl rfl (ap_rd lc ow' hL3)
    ·exact pair_one rfl rfl (ap_rd lo ow' hL3)
   ·rw [List.length_drop]; omega
   ·rw [List.length_append, hcs, xll]; omega
 obtain rfl : i = ts.length := by omega
 rw [List.drop_length, rbL] at hrb
 have a5 := aw.len 5
 by_cases h0 : 0 < li.length
 ·rw [if_pos h0] at hrb
  rw [hrb]
  refine ww1 (cj e2 <| cj e12 <| cj e102 <| cj e103 <| cj e104 <| cj hin4 <| cj gw <| cj a5 h0) ?_
  exact ⟨hx04, _, rfl, rfl, rfl⟩
 ·rw [if_neg h0] at hrb
  rw [hrb]
  refine ww1 (cj e2 <| cj e12 <| cj e102 <| cj e103 <| cj e104 <| cj hin4 <| cj gw <| cj a5 <| cj h0 e16) ?_
  exact ⟨hx04, _, c3, c4, rfl⟩
end
end Go.Proofs.YtinbhlejofgomaaGreat
