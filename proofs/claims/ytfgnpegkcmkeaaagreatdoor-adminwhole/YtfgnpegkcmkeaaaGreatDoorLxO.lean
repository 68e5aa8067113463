/-
  Each of the machine's operations is the model's, through the relation: operators.
-/
import Derived.Test.YtfgnpegkcmkeaaaGreatDoorLxN
import Derived.Laws.StructEq
set_option linter.unusedSimpArgs false
set_option linter.unusedVariables false
namespace Go.Lx
section
variable {P : Program} {μ : Mu} {ν : Nat → Value} {s s' : St} {w : World}
theorem eqFlat_rel {t : TypeId} {d : TypeDesc} {n : Nat} {x y : V} {x' y' : Value} {b : Bool} {w2 : World} (hd : P.underlying t = some d) (hx : VRel μ ν x x') (hy : VRel μ ν y y') (h : eqFlat d x y = some b) : (Op.equalIn (n + 1) t x' y').run P w2 = .ok b w2 := by
 unfold Op.equalIn
 rw [run_pure_bind (run_underlying hd)]
 unfold eqFlat at h
 split at h
 case h_2 k k1 a k2 c =>
  cases hx; cases hy
  split at h
  ·rename_i e; subst e
   injection h with h; subst h
   simp only [if_true]
   rfl
  ·cases h
 case h_3 a c =>
  cases hx; cases hy
  injection h with h; subst h
  rw [eqNats_toNats]
  rfl
 all_goals first
  | (cases h; done)
  | (cases hx; cases hy; injection h with h; subst h; rfl)
theorem eqFlats_rel {n : Nat} {xs ys : List V} {xs' ys' : List Value} {w2 : World} (hx : VsRel μ ν xs xs') (hy : VsRel μ ν ys ys') : ∀ {fs : List Field} {b : Bool}, eqFlats P xs ys fs = some b → (Op.eqFields (n + 1) ⟨xs'⟩ ⟨ys'⟩ fs).run P w2 = .ok b w2
 | [], b, h => by injection h with h; subst h; rfl
 | f :: fs, b, h => by
   unfold eqFlats at h
   cases hn : f.name == "_"
   case true => rw [hn, cond_true] at h; cases h
   rw [hn, cond_false] at h
   have hne : f.name ≠ "_" := by simpa using hn
   cases hd : P.underlying f.type with
   | none => rw [hd] at h; cases h
   | some d =>
     rw [hd] at h
     simp only at h
     cases ha : isAggD d
     case true => rw [ha, cond_true] at h; cases h
     rw [ha, cond_false] at h
     cases hxv : xs[f.offset]? <;> cases hyv : ys[f.offset]? <;> simp only [hxv, hyv] at h <;> try (cases h; done)
     rename_i x y
     obtain ⟨x', hx1, hx2⟩ := hx.get hxv
     obtain ⟨y', hy1, hy2⟩ := hy.get hyv
     have px : (part f.type ⟨xs'⟩ f.offset).run P w2 = .ok x' w2 := by
      have e : (⟨xs'⟩ : Array Value)[f.offset]? = some x' := by simpa using hx1
      simp only [part, Sem.run_bind, run_isAgg hd, ha, Result.andThen_ok, Bool.false_eq_true, if_false, e, Sem.run_pure]
     have py : (part f.type ⟨ys'⟩ f.offset).run P w2 = .ok y' w2 := by
      have e : (⟨ys'⟩ : Array Value)[f.offset]? = some y' := by simpa using hy1
      simp only [part, Sem.run_bind, run_isAgg hd, ha, Result.andThen_ok, Bool.false_eq_true, if_false, e, Sem.run_pure]
     cases he : eqFlat d x y with
     | none => rw [he] at h; cases h
     | some c =>
       rw [he] at h
       have hq := eqFlat_rel (P := P) (n := n) (w2 := w2) hd hx2 hy2 he
       unfold Op.eqFields
       rw [if_pos hne, run_pure_bind px, run_pure_bind py, run_pure_bind hq]
       cases c with
       | true =>
         simp only at h
         simp only [Bool.not_true, Bool.false_eq_true, if_false]
         exact eqFlats_rel hx hy h
       | false =>
         injection h with h; subst h
         simp only [Bool.not_false, if_true, Sem.run_pure]
theorem eqFields_rel {n : Nat} {xs ys : List V} {xs' ys' : List Value} {w2 : World} (hx : VsRel μ ν xs xs') (hy : VsRel μ ν ys ys') : ∀ {fs : List Field} {b : Bool}, eqFields P xs ys fs = some b → (Op.eqFields (n + 1 + 1) ⟨xs'⟩ ⟨ys'⟩ fs).run P w2 = .ok b w2
 | [], b, h => by injection h with h; subst h; rfl
 | f :: fs, b, h => by
   unfold eqFields at h
   cases hn : f.name == "_"
   case true => rw [hn, cond_true] at h; cases h
   rw [hn, cond_false] at h
   have hne : f.name ≠ "_" := by simpa using hn
   cases hd : P.underlying f.type with
   | none => rw [hd] at h; cases h
   | some d =>
     rw [hd] at h
     simp only at h
     cases ha : isAggD d
     case true =>
      rw [ha, cond_true] at h
      cases d <;> try (cases h; done)
      rename_i gs
      cases hm : szT P f.type with
      | none => rw [hm] at h; cases h
      | some m =>
      rw [hm] at h
      simp only at h
      cases hst : P.stoodInHeld f.type
      case true => rw [hst, cond_true] at h; cases h
      rw [hst, cond_false] at h
      have ext : ∀ zs : List Value, (part f.type ⟨zs⟩ f.offset).run P w2 = .ok (.agg ⟨sub zs f.offset m⟩) w2 := fun zs => by
       have e : (⟨zs⟩ : Array Value).extract f.offset (f.offset + m) = ⟨sub zs f.offset m⟩ := by
        apply Array.ext'
        simp [sub]
       simp only [part, Sem.run_bind, run_isAgg hd, ha, Result.andThen_ok, if_true, run_sizeOf hm, Sem.run_pure, e]
      cases he : eqFlats P (sub xs f.offset m) (sub ys f.offset m) gs.toList with
      | none => rw [he] at h; cases h
      | some c =>
        rw [he] at h
        have hfo : P.fieldsOf f.type = gs := by simp [Program.fieldsOf, hd]
        have hq : (Op.equalIn (n + 1 + 1) f.type (.agg ⟨sub xs' f.offset m⟩) (.agg ⟨sub ys' f.offset m⟩)).run P w2 = .ok c w2 := by
         rw [run_equalIn_struct w2 (n + 1) f.type _ _ (by rw [hfo]; exact hd) hst, hfo]
         exact eqFlats_rel (hx.sub _ _) (hy.sub _ _) he
        unfold Op.eqFields
        rw [if_pos hne, run_pure_bind (ext xs'), run_pure_bind (ext ys'), run_pure_bind hq]
        cases c with
        | true =>
          simp only at h
          simp only [Bool.not_true, Bool.false_eq_true, if_false]
          exact eqFields_rel hx hy h
        | false =>
          injection h with h; subst h
          simp only [Bool.not_false, if_true, Sem.run_pure]
     rw [ha, cond_false] at h
     cases hxv : xs[f.offset]? <;> cases hyv : ys[f.offset]? <;> simp only [hxv, hyv] at h <;> try (cases h; done)
     rename_i x y
     obtain ⟨x', hx1, hx2⟩ := hx.get hxv
     obtain ⟨y', hy1, hy2⟩ := hy.get hyv
     have px : (part f.type ⟨xs'⟩ f.offset).run P w2 = .ok x' w2 := by
      have e : (⟨xs'⟩ : Array Value)[f.offset]? = some x' := by simpa using hx1
      simp only [part, Sem.run_bind, run_isAgg hd, ha, Result.andThen_ok, Bool.false_eq_true, if_false, e, Sem.run_pure]
     have py : (part f.type ⟨ys'⟩ f.offset).run P w2 = .ok y' w2 := by
      have e : (⟨ys'⟩ : Array Value)[f.offset]? = some y' := by simpa using hy1
      simp only [part, Sem.run_bind, run_isAgg hd, ha, Result.andThen_ok, Bool.false_eq_true, if_false, e, Sem.run_pure]
     cases he : eqFlat d x y with
     | none => rw [he] at h; cases h
     | some c =>
       rw [he] at h
       have hq := eqFlat_rel (P := P) (n := n + 1) (w2 := w2) hd hx2 hy2 he
       unfold Op.eqFields
       rw [if_pos hne, run_pure_bind px, run_pure_bind py, run_pure_bind hq]
       cases c with
       | true =>
         simp only at h
         simp only [Bool.not_true, Bool.false_eq_true, if_false]
         exact eqFields_rel hx hy h
       | false =>
         injection h with h; subst h
         simp only [Bool.not_false, if_true, Sem.run_pure]
theorem eqT_rel {t : TypeId} {x y : V} {x' y' : Value} {b : Bool} {w2 : World} (hx : VRel μ ν x x') (hy : VRel μ ν y y') (h : eqT P t x y = some b) :
  (Op.equal t x' y').run P w2 = .ok b w2 ∧ (∀ xs, x ≠ .agg xs ∨ P.eqGuardType P.depth t = false) := by
 have e : Op.maxDepth = 9998 + 1 + 1 := rfl
 unfold Op.equal
 rw [e]
 unfold eqT at h
 cases hd : P.underlying t with
 | none => simp only [hd] at h; cases h
 | some d =>
   simp only [hd] at h
   cases ha : isAggD d with
   | false =>
     by_cases hpp : ∃ e k o k2 o2, d = .pointer e ∧ x = .ptr k o ∧ y = .ptr k2 o2
     ·obtain ⟨e, k, o, k2, o2, rfl, rfl, rfl⟩ := hpp
      simp only at h
      cases hc : (Nat.beq k k2 && Nat.beq o o2 && (szT P e).isSome)
      ·rw [hc, cond_false] at h; cases h
      rw [hc, cond_true] at h
      injection h with h; subst h
      rw [Bool.and_eq_true, Bool.and_eq_true, nbeq_iff, nbeq_iff] at hc
      obtain ⟨⟨rfl, rfl⟩, hsz⟩ := hc
      obtain ⟨n, hn⟩ := Option.isSome_iff_exists.1 hsz
      refine ⟨?_, fun xs => .inl (by intro e; cases e)⟩
      cases hx with
      | ptr hp =>
        cases hy with
        | ptr hp2 =>
          rw [hp] at hp2; cases hp2
          unfold Op.equalIn
          rw [run_pure_bind (run_underlying hd)]
          simp only [Sem.run_bind, run_sizeOf hn, Result.andThen_ok]
          by_cases h0 : n = 0
          ·subst h0
           simp
          ·simp [h0, sameAddr]
     have h' : eqFlat d x y = some b := by
      cases d <;> simp only [isAggD] at ha <;> first | (cases ha; done) | (simp only [isAggD, cond_false] at h; exact h) | (cases x <;> (try (simp only [isAggD, cond_false] at h; exact h)) <;> cases y <;> first | (exact absurd ⟨_, _, _, _, _, rfl, rfl, rfl⟩ hpp) | (simp only [isAggD, cond_false] at h; exact h))
     refine ⟨eqFlat_rel hd hx hy h', fun xs => ?_⟩
     left
     intro e; subst e
     cases d <;> simp only [eqFlat] at h' <;> cases h'
   | true =>
     cases d <;> simp only [isAggD] at ha <;> try (cases ha; done)
     case array n e =>
      simp only [isAggD, cond_true] at h; cases h
     case struct fs =>
      cases x <;> (try (simp only [isAggD, cond_true] at h; cases h; done)) <;> cases y <;> simp only [isAggD, cond_true] at h <;> try (cases h; done)
      rename_i xs ys
      cases hx with
      | agg hx =>
        cases hy with
        | agg hy =>
          cases hc : (P.stoodInHeld t || P.eqGuardType P.depth t)
          case true => rw [hc, cond_true] at h; cases h
          rw [hc, cond_false] at h
          rw [Bool.or_eq_false_iff] at hc
          refine ⟨?_, fun _ => .inr hc.2⟩
          have hfo : P.fieldsOf t = fs := by simp [Program.fieldsOf, hd]
          rw [run_equalIn_struct w2 (9998 + 1) t _ _ (by rw [hfo]; exact hd) hc.1, hfo]
          exact eqFields_rel hx hy h
theorem run_eqGuard_plain {op : BinOp} {t : TypeId} {x y : Operand} {a b : Value} {w2 : World} (h1 : ¬ (a = .nilIface ∧ b = .nilIface)) (h2 : ∀ xs ys, a = .agg xs → b = .agg ys → P.eqGuardType P.depth t = false) : (eqGuard op t x y a b).run P w2 = .ok () w2 := by
 cases op <;> cases a <;> first
  | rfl
  | (cases b <;> first | rfl | exact absurd ⟨rfl, rfl⟩ h1 | (simp [eqGuard, run_program, h2 _ _ rfl rfl]))
end
end Go.Lx
