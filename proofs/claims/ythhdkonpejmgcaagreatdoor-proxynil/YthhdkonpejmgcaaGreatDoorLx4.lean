/-
  Several texts, joined.
-/
import Derived.Test.YthhdkonpejmgcaaGreatDoorLx3
import Derived.Laws.StructEq
/-
  Each of the machine's operations is the model's, through the relation: operators.
-/
set_option linter.unusedSimpArgs false
set_option linter.unusedVariables false
namespace Go.Lx
section
variable {P : Program} {μ : Mu} {ν : Nat → Value} {s s' : St} {w : World}

theorem eqFlat_rel {t : TypeId} {d : TypeDesc} {n : Nat} {x y : V} {x' y' : Value} {b : Bool} {w2 : World} (hd : P.underlying t = some d) (hx : VRel μ ν x x') (hy : VRel μ ν y y') (h : eqFlat d x y = some b) : (Op.equalIn (n + 1) t x' y').run P w2 = .ok b w2 := by
  unfold Op.equalIn
  rw [run_pure_bind (run_underlying hd)]
  unfold eqFlat at h
  split at h
  case h_2 k k1 a k2 c =>
    cases hx; cases hy
    split at h
    · rename_i e; subst e
      injection h with h; subst h
      simp only [if_true]
      rfl
    · cases h
  case h_3 a c =>
    cases hx; cases hy
    injection h with h; subst h
    rw [eqNats_toNats]
    rfl
  all_goals first
    | (cases h; done)
    | (cases hx; cases hy; injection h with h; subst h; rfl)

theorem eqFlats_rel {n : Nat} {xs ys : List V} {xs' ys' : List Value} {w2 : World} (hx : VsRel μ ν xs xs') (hy : VsRel μ ν ys ys') : ∀ {fs : List Field} {b : Bool}, eqFlats P xs ys fs = some b → (Op.eqFields (n + 1) ⟨xs'⟩ ⟨ys'⟩ fs).run P w2 = .ok b w2
  | [], b, h => by injection h with h; subst h; rfl
  | f :: fs, b, h => by
    unfold eqFlats at h
    cases hn : f.name == "_"
    case true => rw [hn, cond_true] at h; cases h
    rw [hn, cond_false] at h
    have hne : f.name ≠ "_" := by simpa using hn
    cases hd : P.underlying f.type with
    | none => rw [hd] at h; cases h
    | some d =>
      rw [hd] at h
      simp only at h
      cases ha : isAggD d
      case true => rw [ha, cond_true] at h; cases h
      rw [ha, cond_false] at h
      cases hxv : xs[f.offset]? <;> cases hyv : ys[f.offset]? <;> simp only [hxv, hyv] at h <;> try (cases h; done)
      rename_i x y
      obtain ⟨x', hx1, hx2⟩ := hx.get hxv
      obtain ⟨y', hy1, hy2⟩ := hy.get hyv
      have px : (part f.type ⟨xs'⟩ f.offset).run P w2 = .ok x' w2 := by
        have e : (⟨xs'⟩ : Array Value)[f.offset]? = some x' := by simpa using hx1
        simp only [part, Sem.run_bind, run_isAgg hd, ha, Result.andThen_ok, Bool.false_eq_true, if_false, e, Sem.run_pure]
      have py : (part f.type ⟨ys'⟩ f.offset).run P w2 = .ok y' w2 := by
        have e : (⟨ys'⟩ : Array Value)[f.offset]? = some y' := by simpa using hy1
        simp only [part, Sem.run_bind, run_isAgg hd, ha, Result.andThen_ok, Bool.false_eq_true, if_false, e, Sem.run_pure]
      cases he : eqFlat d x y with
      | none => rw [he] at h; cases h
      | some c =>
        rw [he] at h
        have hq := eqFlat_rel (P := P) (n := n) (w2 := w2) hd hx2 hy2 he
        unfold Op.eqFields
        rw [if_pos hne, run_pure_bind px, run_pure_bind py, run_pure_bind hq]
        cases c with
        | true =>
          simp only at h
          simp only [Bool.not_true, Bool.false_eq_true, if_false]
          exact eqFlats_rel hx hy h
        | false =>
          injection h with h; subst h
          simp only [Bool.not_false, if_true, Sem.run_pure]

theorem eqFields_rel {n : Nat} {xs ys : List V} {xs' ys' : List Value} {w2 : World} (hx : VsRel μ ν xs xs') (hy : VsRel μ ν ys ys') : ∀ {fs : List Field} {b : Bool}, eqFields P xs ys fs = some b → (Op.eqFields (n + 1 + 1) ⟨xs'⟩ ⟨ys'⟩ fs).run P w2 = .ok b w2
  | [], b, h => by injection h with h; subst h; rfl
  | f :: fs, b, h => by
    unfold eqFields at h
    cases hn : f.name == "_"
    case true => rw [hn, cond_true] at h; cases h
    rw [hn, cond_false] at h
    have hne : f.name ≠ "_" := by simpa using hn
    cases hd : P.underlying f.type with
    | none => rw [hd] at h; cases h
    | some d =>
      rw [hd] at h
      simp only at h
      cases ha : isAggD d
      case true =>
        rw [ha, cond_true] at h
        cases d <;> try (cases h; done)
        rename_i gs
        cases hm : szT P f.type with
        | none => rw [hm] at h; cases h
        | some m =>
        rw [hm] at h
        simp only at h
        cases hst : P.stoodInHeld f.type
        case true => rw [hst, cond_true] at h; cases h
        rw [hst, cond_false] at h
        have ext : ∀ zs : List Value, (part f.type ⟨zs⟩ f.offset).run P w2 = .ok (.agg ⟨sub zs f.offset m⟩) w2 := fun zs => by
          have e : (⟨zs⟩ : Array Value).extract f.offset (f.offset + m) = ⟨sub zs f.offset m⟩ := by
            apply Array.ext'
            simp [sub]
          simp only [part, Sem.run_bind, run_isAgg hd, ha, Result.andThen_ok, if_true, run_sizeOf hm, Sem.run_pure, e]
        cases he : eqFlats P (sub xs f.offset m) (sub ys f.offset m) gs.toList with
        | none => rw [he] at h; cases h
        | some c =>
          rw [he] at h
          have hfo : P.fieldsOf f.type = gs := by simp [Program.fieldsOf, hd]
          have hq : (Op.equalIn (n + 1 + 1) f.type (.agg ⟨sub xs' f.offset m⟩) (.agg ⟨sub ys' f.offset m⟩)).run P w2 = .ok c w2 := by
            rw [run_equalIn_struct w2 (n + 1) f.type _ _ (by rw [hfo]; exact hd) hst, hfo]
            exact eqFlats_rel (hx.sub _ _) (hy.sub _ _) he
          unfold Op.eqFields
          rw [if_pos hne, run_pure_bind (ext xs'), run_pure_bind (ext ys'), run_pure_bind hq]
          cases c with
          | true =>
            simp only at h
            simp only [Bool.not_true, Bool.false_eq_true, if_false]
            exact eqFields_rel hx hy h
          | false =>
            injection h with h; subst h
            simp only [Bool.not_false, if_true, Sem.run_pure]
      rw [ha, cond_false] at h
      cases hxv : xs[f.offset]? <;> cases hyv : ys[f.offset]? <;> simp only [hxv, hyv] at h <;> try (cases h; done)
      rename_i x y
      obtain ⟨x', hx1, hx2⟩ := hx.get hxv
      obtain ⟨y', hy1, hy2⟩ := hy.get hyv
      have px : (part f.type ⟨xs'⟩ f.offset).run P w2 = .ok x' w2 := by
        have e : (⟨xs'⟩ : Array Value)[f.offset]? = some x' := by simpa using hx1
        simp only [part, Sem.run_bind, run_isAgg hd, ha, Result.andThen_ok, Bool.false_eq_true, if_false, e, Sem.run_pure]
      have py : (part f.type ⟨ys'⟩ f.offset).run P w2 = .ok y' w2 := by
        have e : (⟨ys'⟩ : Array Value)[f.offset]? = some y' := by simpa using hy1
        simp only [part, Sem.run_bind, run_isAgg hd, ha, Result.andThen_ok, Bool.false_eq_true, if_false, e, Sem.run_pure]
      cases he : eqFlat d x y with
      | none => rw [he] at h; cases h
      | some c =>
        rw [he] at h
        have hq := eqFlat_rel (P := P) (n := n + 1) (w2 := w2) hd hx2 hy2 he
        unfold Op.eqFields
        rw [if_pos hne, run_pure_bind px, run_pure_bind py, run_pure_bind hq]
        cases c with
        | true =>
          simp only at h
          simp only [Bool.not_true, Bool.false_eq_true, if_false]
          exact eqFields_rel hx hy h
        | false =>
          injection h with h; subst h
          simp only [Bool.not_false, if_true, Sem.run_pure]

theorem eqT_rel {t : TypeId} {x y : V} {x' y' : Value} {b : Bool} {w2 : World} (hx : VRel μ ν x x') (hy : VRel μ ν y y') (h : eqT P t x y = some b) :
    (Op.equal t x' y').run P w2 = .ok b w2 ∧ (∀ xs, x ≠ .agg xs ∨ P.eqGuardType P.depth t = false) := by
  have e : Op.maxDepth = 9998 + 1 + 1 := rfl
  unfold Op.equal
  rw [e]
  unfold eqT at h
  cases hd : P.underlying t with
  | none => simp only [hd] at h; cases h
  | some d =>
    simp only [hd] at h
    cases ha : isAggD d with
    | false =>
      by_cases hpp : ∃ e k o k2 o2, d = .pointer e ∧ x = .ptr k o ∧ y = .ptr k2 o2
      · obtain ⟨e, k, o, k2, o2, rfl, rfl, rfl⟩ := hpp
        simp only at h
        cases hc : (Nat.beq k k2 && Nat.beq o o2 && (szT P e).isSome)
        · rw [hc, cond_false] at h; cases h
        rw [hc, cond_true] at h
        injection h with h; subst h
        rw [Bool.and_eq_true, Bool.and_eq_true, nbeq_iff, nbeq_iff] at hc
        obtain ⟨⟨rfl, rfl⟩, hsz⟩ := hc
        obtain ⟨n, hn⟩ := Option.isSome_iff_exists.1 hsz
        refine ⟨?_, fun xs => .inl (by intro e; cases e)⟩
        cases hx with
        | ptr hp =>
          cases hy with
          | ptr hp2 =>
            rw [hp] at hp2; cases hp2
            unfold Op.equalIn
            rw [run_pure_bind (run_underlying hd)]
            simp only [Sem.run_bind, run_sizeOf hn, Result.andThen_ok]
            by_cases h0 : n = 0
            · subst h0
              simp
            · simp [h0, sameAddr]
      have h' : eqFlat d x y = some b := by
        cases d <;> simp only [isAggD] at ha <;> first | (cases ha; done) | (simp only [isAggD, cond_false] at h; exact h) | (cases x <;> (try (simp only [isAggD, cond_false] at h; exact h)) <;> cases y <;> first | (exact absurd ⟨_, _, _, _, _, rfl, rfl, rfl⟩ hpp) | (simp only [isAggD, cond_false] at h; exact h))
      refine ⟨eqFlat_rel hd hx hy h', fun xs => ?_⟩
      left
      intro e; subst e
      cases d <;> simp only [eqFlat] at h' <;> cases h'
    | true =>
      cases d <;> simp only [isAggD] at ha <;> try (cases ha; done)
      case array n e =>
        simp only [isAggD, cond_true] at h; cases h
      case struct fs =>
        cases x <;> (try (simp only [isAggD, cond_true] at h; cases h; done)) <;> cases y <;> simp only [isAggD, cond_true] at h <;> try (cases h; done)
        rename_i xs ys
        cases hx with
        | agg hx =>
          cases hy with
          | agg hy =>
            cases hc : (P.stoodInHeld t || P.eqGuardType P.depth t)
            case true => rw [hc, cond_true] at h; cases h
            rw [hc, cond_false] at h
            rw [Bool.or_eq_false_iff] at hc
            refine ⟨?_, fun _ => .inr hc.2⟩
            have hfo : P.fieldsOf t = fs := by simp [Program.fieldsOf, hd]
            rw [run_equalIn_struct w2 (9998 + 1) t _ _ (by rw [hfo]; exact hd) hc.1, hfo]
            exact eqFields_rel hx hy h

theorem run_eqGuard_plain {op : BinOp} {t : TypeId} {x y : Operand} {a b : Value} {w2 : World} (h1 : ¬ (a = .nilIface ∧ b = .nilIface)) (h2 : ∀ xs ys, a = .agg xs → b = .agg ys → P.eqGuardType P.depth t = false) : (eqGuard op t x y a b).run P w2 = .ok () w2 := by
  cases op <;> cases a <;> first
    | rfl
    | (cases b <;> first | rfl | exact absurd ⟨rfl, rfl⟩ h1 | (simp [eqGuard, run_program, h2 _ _ rfl rfl]))

end
end Go.Lx

/-
  Each of the machine's operations is the model's, through the relation: operators, and all operations but calls together.
-/
set_option linter.unusedSimpArgs false
set_option linter.unusedVariables false
namespace Go.Lx
noncomputable section

theorem ltNats_bytes : ∀ (a b : List UInt8), ltNats (a.map (·.toNat)) (b.map (·.toNat)) = Op.bytesLess a b
  | [], [] => rfl
  | [], b :: y => rfl
  | a :: x, [] => rfl
  | a :: x, b :: y => by
    simp only [List.map_cons, ltNats, Op.bytesLess, ltNats_bytes x y]
    have e1 : Nat.blt a.toNat b.toNat = decide (a < b) := by
      rw [Bool.eq_iff_iff, blt_iff, decide_eq_true_eq, UInt8.lt_iff_toNat_lt]
    have e2 : Nat.beq a.toNat b.toNat = (a == b) := by
      rw [Bool.eq_iff_iff, nbeq_iff, beq_iff_eq, UInt8.toNat_inj]
    rw [e1, e2]

theorem ltNats_lists {a b : ByteArray} : ltNats (toNats a) (toNats b) = Op.bytesLess a.toList b.toList := by
  rw [Go.ByteArray.toList_eq, Go.ByteArray.toList_eq]
  exact ltNats_bytes _ _

theorem toNats_append (a b : ByteArray) : toNats (a ++ b) = toNats a ++ toNats b := by
  simp [toNats, ByteArray.data_append]

section
variable {P : Program} {μ : Mu} {ν : Nat → Value} {s s' : St} {w : World}

theorem binInt_rel {op : BinOp} {t : TypeId} {k : IntKind} {a b : Int} {v : V} {w2 : World} (h1 : op ≠ .shl) (h2 : op ≠ .shr) (h : binInt op k a b = some v) : ∃ r, (binOp op t (.int k a) (.int k b)).run P w2 = .ok r w2 ∧ VRel μ ν v r := by
  cases op <;> simp only [binInt] at h <;> try (cases h; done)
  case quo =>
    split at h
    · cases h
    · rename_i hb
      injection h with h; subst h
      exact ⟨_, by simp only [binOp, ne_eq, not_true_eq_false, if_false, Op.intDiv, hb]; rfl, .int _ _⟩
  case rem =>
    split at h
    · cases h
    · rename_i hb
      injection h with h; subst h
      exact ⟨_, by simp only [binOp, ne_eq, not_true_eq_false, if_false, Op.intDiv, hb]; rfl, .int _ _⟩
  all_goals
    injection h with h; subst h
    first
      | exact ⟨_, by simp only [binOp, ne_eq, not_true_eq_false, if_false]; rfl, .int _ _⟩
      | exact ⟨_, by simp only [binOp, ne_eq, not_true_eq_false, if_false]; rfl, .bool _⟩

theorem binStr_rel {op : BinOp} {t : TypeId} {a b : ByteArray} {v : V} {w2 : World} (h : binStr op (toNats a) (toNats b) = some v) : ∃ r, (binOp op t (.string a) (.string b)).run P w2 = .ok r w2 ∧ VRel μ ν v r := by
  cases op <;> simp only [binStr] at h <;> try (cases h; done)
  case add =>
    rw [toNats_length, toNats_length] at h
    cases hb : Nat.ble (a.size + b.size) 9223372036854775807
    · rw [hb, cond_false] at h; cases h
    · rw [hb, cond_true] at h
      injection h with h; subst h
      rw [ble_iff] at hb
      have hm : IntKind.i64.max = 9223372036854775807 := by decide
      refine ⟨.string (a ++ b), ?_, by rw [← toNats_append]; exact .str _⟩
      simp only [binOp, Op.stringOp, hm]
      rw [if_neg (by omega)]
      rfl
  all_goals
    injection h with h; subst h
    simp only [eqNats_lists, ltNats_lists]
    exact ⟨_, by simp only [binOp, Op.stringOp]; rfl, .bool _⟩

theorem bin_int_eq {op : BinOp} {t : TypeId} {ox oy : Operand} {k k' : IntKind} {a b : Int} {w2 : World} : (do eqGuard op t ox oy (.int k a) (.int k' b); binOp op t (.int k a) (.int k' b) : Sem Value).run P w2 = (binOp op t (.int k a) (.int k' b)).run P w2 := by
  rw [run_pure_bind (run_eqGuard_plain (by simp) (by intro xs ys e; cases e))]

def plainEqV : Value → Bool
  | .int .. | .float .. | .complex .. | .string _ => false
  | _ => true

theorem binop_eql {t : TypeId} {x' y' : Value} (h : plainEqV x' = true) : binOp .eql t x' y' = (do pure (.bool (← Op.equal t x' y')) : Sem Value) := by
  cases x' <;> first | (cases h; done) | rfl | (cases y' <;> rfl)
theorem binop_neq {t : TypeId} {x' y' : Value} (h : plainEqV x' = true) : binOp .neq t x' y' = (do pure (.bool (!(← Op.equal t x' y'))) : Sem Value) := by
  cases x' <;> first | (cases h; done) | rfl | (cases y' <;> rfl)

theorem sim_eq {t : TypeId} {ox oy : Operand} {x y : V} {x' y' : Value} {b : Bool} (hx : VRel μ ν x x') (hy : VRel μ ν y y') (h : eqT P t x y = some b) (hni : ¬ (x = .nilIface ∧ y = .nilIface)) (hpl : plainEqV x' = true) :
    (do eqGuard .eql t ox oy x' y'; binOp .eql t x' y' : Sem Value).run P w = .ok (.bool b) w ∧ (do eqGuard .neq t ox oy x' y'; binOp .neq t x' y' : Sem Value).run P w = .ok (.bool (!b)) w := by
  obtain ⟨e1, e2⟩ := eqT_rel (P := P) (w2 := w) hx hy h
  have hs : ∀ i, x ≠ .sym i ∧ y ≠ .sym i := by
    intro i
    unfold eqT at h
    constructor
    · intro e; subst e
      cases hd : P.underlying t with
      | none => simp only [hd] at h; cases h
      | some d => simp only [hd] at h; cases d <;> simp [isAggD, eqFlat] at h
    · intro e; subst e
      cases hd : P.underlying t with
      | none => simp only [hd] at h; cases h
      | some d => simp only [hd] at h; cases d <;> cases x <;> simp [isAggD, eqFlat] at h
  have hg : ∀ op, (eqGuard op t ox oy x' y').run P w = .ok () w := fun op => run_eqGuard_plain (by
      rintro ⟨f1, f2⟩
      cases x <;> first | exact absurd rfl (hs _).1 | (cases hx; cases f1; done) | skip
      cases y <;> first | exact absurd rfl (hs _).2 | (cases hy; cases f2; done) | exact hni ⟨rfl, rfl⟩) (by
      intro xs ys hxs hys
      cases x <;> first | exact absurd rfl (hs _).1 | (cases hx; cases hxs; done) | skip
      rcases e2 _ with h | h
      · exact absurd rfl h
      · exact h)
  constructor
  · rw [run_pure_bind (hg _), binop_eql hpl, run_pure_bind e1]; rfl
  · rw [run_pure_bind (hg _), binop_neq hpl, run_pure_bind e1]; rfl

theorem sim_bin {op : BinOp} {t : TypeId} {ox oy : Operand} {x y v : V} {x' y' : Value} (hr : Rel P μ ν s.heap w.heap) (hx : VRel μ ν x x') (hy : VRel μ ν y y') (h : binV P op t (constO ox || constO oy) x y = some v) :
    SimV P μ ν s s w (do eqGuard op t ox oy x' y'; binOp op t x' y') v := by
  have rest : eqOpV P op t x y = some v → ¬ (x = .nilIface ∧ y = .nilIface) → plainEqV x' = true → SimV P μ ν s s w (do eqGuard op t ox oy x' y'; binOp op t x' y') v := by
    intro h hni hpl
    unfold eqOpV at h
    cases op <;> simp only at h <;> try (cases h; done)
    all_goals
      cases he : eqT P t x y with
      | none => rw [he] at h; cases h
      | some b =>
        rw [he] at h
        injection h with h; subst h
        obtain ⟨g1, g2⟩ := sim_eq (P := P) (w := w) (ox := ox) (oy := oy) hx hy he hni hpl
        first
          | exact .quiet hr g1 (.bool _) rfl rfl
          | exact .quiet hr g2 (.bool _) rfl rfl
  have other : ∀ {z : V}, x = z → (∀ k n, z ≠ .int k n) → (∀ l, z ≠ .str l) → z ≠ .nilIface → (∀ i, z ≠ .sym i) → SimV P μ ν s s w (do eqGuard op t ox oy x' y'; binOp op t x' y') v := by
    intro z hz h1 h2 h3 h4
    refine rest ?_ (fun e => h3 (hz ▸ e.1)) ?_
    · subst hz
      unfold binV at h
      cases x <;> first
        | exact absurd rfl (h1 _ _)
        | exact absurd rfl (h2 _)
        | exact absurd rfl h3
        | (cases y <;> exact h)
    · subst hz
      cases x <;> cases hx <;> first
        | rfl
        | exact absurd rfl (h1 _ _)
        | exact absurd rfl (h2 _)
        | exact absurd rfl (h4 _)
  cases x
  case int k a =>
    cases y
    case int k' b =>
      cases hx; cases hy
      simp only [binV] at h
      cases op <;> simp only at h
      case shl =>
        split at h
        · cases h
        · rename_i hb
          injection h with h; subst h
          refine .quiet (r := .int k (k.wrap (a * 2 ^ (min b.toNat k.bits)))) hr ?_ (.int _ _) rfl rfl
          rw [bin_int_eq]
          simp only [binOp, Op.shift, hb, if_false]
          rfl
      case shr =>
        split at h
        · cases h
        · rename_i hb
          injection h with h; subst h
          refine .quiet (r := .int k (a.fdiv (2 ^ (min b.toNat k.bits)))) hr ?_ (.int _ _) rfl rfl
          rw [bin_int_eq]
          simp only [binOp, Op.shift, hb, if_false]
          rfl
      all_goals
        split at h
        · rename_i e; subst e
          obtain ⟨r, g1, g2⟩ := binInt_rel (P := P) (μ := μ) (ν := ν) (t := t) (w2 := w) (by intro e; cases e) (by intro e; cases e) h
          exact .quiet hr (by rw [bin_int_eq]; exact g1) g2 rfl rfl
        · cases h
    all_goals
      simp only [binV, eqOpV] at h
      cases op <;> simp only at h <;> try (cases h; done)
      all_goals
        unfold eqT at h
        cases hd : P.underlying t with
        | none => simp only [hd] at h; cases h
        | some d => simp only [hd] at h; cases d <;> simp [isAggD, eqFlat] at h
  case str l =>
    cases y
    case str l' =>
      cases hx; cases hy
      rename_i a b
      obtain ⟨r, g1, g2⟩ := binStr_rel (P := P) (μ := μ) (ν := ν) (t := t) (w2 := w) h
      refine .quiet hr ?_ g2 rfl rfl
      rw [run_pure_bind (run_eqGuard_plain (by simp) (by intro xs ys e; cases e))]
      exact g1
    all_goals
      simp only [binV, eqOpV] at h
      cases op <;> simp only at h <;> try (cases h; done)
      all_goals
        unfold eqT at h
        cases hd : P.underlying t with
        | none => simp only [hd] at h; cases h
        | some d => simp only [hd] at h; cases d <;> simp [isAggD, eqFlat] at h
  case nilIface =>
    cases hy' : y
    case nilIface =>
      subst hy'
      cases hx; cases hy
      simp only [binV] at h
      cases hc : (constO ox || constO oy)
      · rw [hc, cond_false] at h; cases h
      rw [hc, cond_true] at h
      cases hd : P.underlying t with
      | none => simp only [hd] at h; cases h
      | some d =>
        simp only [hd] at h
        cases d <;> simp only at h <;> try (cases h; done)
        have hgu : ∀ op, (eqGuard op t ox oy .nilIface .nilIface).run P w = .ok () w := by
          intro op
          cases op <;> first | rfl | (cases ox <;> cases oy <;> first | rfl | cases hc)
        have heq : (Op.equal t .nilIface .nilIface).run P w = .ok true w := by
          have e : Op.maxDepth = 9999 + 1 := rfl
          unfold Op.equal
          rw [e]
          unfold Op.equalIn
          rw [run_pure_bind (run_underlying hd)]
          rfl
        cases op <;> simp only at h <;> try (cases h; done)
        · injection h with h; subst h
          refine .quiet (r := .bool true) hr ?_ (.bool _) rfl rfl
          rw [run_pure_bind (hgu _), binop_eql rfl, run_pure_bind heq]; rfl
        · injection h with h; subst h
          refine .quiet (r := .bool false) hr ?_ (.bool _) rfl rfl
          rw [run_pure_bind (hgu _), binop_neq rfl, run_pure_bind heq]; rfl
    all_goals
      refine rest ?_ (fun e => by rw [hy'] at e; cases e.2) (by cases hx; rfl)
      subst hy'
      exact h
  case sym i =>
    exfalso
    have : eqT P t (.sym i) y = none := by
      unfold eqT
      cases hd : P.underlying t with
      | none => rfl
      | some d => cases d <;> simp [isAggD, eqFlat]
    cases y <;> simp only [binV, eqOpV, this] at h <;> cases op <;> cases h
  all_goals
    exact other rfl (by intro _ _ e; cases e) (by intro _ e; cases e) (by intro e; cases e) (by intro _ e; cases e)

theorem sim_un {op : UnOp} {x v : V} {x' : Value} (hr : Rel P μ ν s.heap w.heap) (hx : VRel μ ν x x') (h : unV op x = some v) : SimV P μ ν s s w (Op.unary op x') v := by
  cases op <;> cases x <;> simp only [unV] at h <;> try (cases h; done)
  case neg.int k n =>
    cases hx
    injection h with h; subst h
    exact .quiet hr (by simp only [Op.unary, Op.intArith]; rfl) (.int _ _) rfl rfl
  case xor.int k n =>
    cases hx
    simp only [binInt] at h
    injection h with h; subst h
    exact .quiet hr (by simp only [Op.unary, Op.intBits]; rfl) (.int _ _) rfl rfl
  case not.bool b =>
    cases hx
    injection h with h; subst h
    exact .quiet hr (by simp only [Op.unary]; rfl) (.bool _) rfl rfl

end
end
end Go.Lx
